/- FnTrees returns true for every input, and its arguments read as before. No condition. -/
import Derived.Test.YtcgcgmlonhganaaGreatOpen
import Derived.Test.YtcgcgmlonhganaaGreatCur
import Derived.Test.YtcgcgmlonhganaaGreatLawQ
import Derived.Test.YtcgcgmlonhganaaGreatDrawL
import Derived.Test.YtcgcgmlonhganaaGreatInnerOf
import Derived.Test.YtcgcgmlonhganaaGreatTreeQ
import Derived.Test.YtcgcgmlonhganaaGreatSplDr
import Derived.Test.YtcgcgmlonhganaaGreatSameM
/- From a law's row to its walk: a slice of bytes opened. -/
namespace Go.Proofs.YtcgcgmlonhganaaGreat
open Go.ChangeShapes Go.WideShapes Go.ChangeAt Go.RowKit Go.Deep
open Go.ChangeMaps (open_string shut_string)

theorem Tryz.cellsByte : Tryz.prog.cellsOf 5 = 1 := by kernel_rfl

section
variable {H : Type} {enc : TypeId × Value → H} {W : World} {base : Nat}

set_option maxRecDepth 100000 in
theorem open_rbytes {v : Value} {d : DataW H} {p : List MemPlace} (hv : Value.okWide Tryz.prog W .any base 22 v) (h : DataW.Trod enc Tryz.prog W 0 (fun _ => true) true 22 v d p) :
    ∃ n, RBytes W v n ∧ True := by
  obtain ⟨a, len, cap, rfl⟩ := okWide_slice Tryz.underlying22 hv
  obtain ⟨fuel, hf⟩ := h
  rcases open_slice Tryz.underlying22 hf with ⟨hcs, _⟩ | ⟨ad, l, c, m, n, D, Pl, hcs, _, hl, hm, hmm, _, hr⟩
  · simp [Value.cells] at hcs
    obtain ⟨rfl, rfl, rfl⟩ := hcs
    exact ⟨0, ⟨none, 0, rfl, Nat.le_refl _, by unfold maxLen; omega, fun i hi => by omega⟩, trivial⟩
  · simp [Value.cells] at hcs
    obtain ⟨rfl, rfl, rfl⟩ := hcs
    simp only [if_true] at hmm
    refine ⟨len, ⟨some ad, cap, rfl, hl, hm, fun i hi => ?_⟩, trivial⟩
    have each : ∀ i, i < len → ∃ y : Int, W.cell? (ad.add i) = some (.int .u8 y) ∧ 0 ≤ y ∧ y < 256 := by
      intro i hi
      obtain ⟨cs, h1, h2⟩ := hr i (by omega)
      rw [Tryz.cellsByte] at h1
      obtain ⟨_, hlen, hc⟩ := World.cells?_some h1
      obtain ⟨c0, rfl⟩ : ∃ c0, cs = [c0] := by
        match cs, hlen with
        | [c0], _ => exact ⟨c0, rfl⟩
      obtain ⟨z0, e0, _, w0⟩ := DataW.trod_int Tryz.underlying5 h2
      simp at e0
      subst e0
      refine ⟨z0, by simpa [Addr.add] using hc 0 (by omega), ?_⟩
      simp [Lit.wf, IntKind.min, IntKind.max, IntKind.signed, IntKind.bits] at w0
      omega
    obtain ⟨b, off, spot⟩ := ad
    obtain ⟨y, k1, k2, k3⟩ := each i hi
    have hspot : spot = none := by
      obtain ⟨y0, h0, _⟩ := each 0 (by omega)
      simpa [Addr.add] using World.cell?_spot h0
    subst hspot
    have e : ((⟨b, off, none⟩ : Addr).add i) = ⟨b, off + i, none⟩ := by unfold Addr.add; split <;> simp_all
    rw [e] at k1
    exact ⟨b, off, y, rfl, k1, k2, k3⟩
end

end Go.Proofs.YtcgcgmlonhganaaGreat

/- Results in plain words: lists, numbers and truth values that are known by name; laws.big; AreTasks. -/
namespace Go.Proofs.YtcgcgmlonhganaaGreat
open Go.RowKit
open Go.Lib (hid)

/-- a list that reads as xs, and b -/
def RetL (w : World) (xs : List Int) (b : Bool) (e : Ending) (w' : World) : Prop := ∃ a n c, e = .returned (.tuple #[.slice a n c, .bool b]) ∧ RInts w' (.slice a n c) xs ∧ Below w.heap.size w w'
theorem retL_of {w w' : World} {p : List Int × Bool} {e : Ending} (h : ∃ v, e = .returned (.tuple #[v, .bool p.2]) ∧ FInts w' w.heap.size w'.heap.size v p.1 ∧ Below w.heap.size w w') {xs : List Int} {b : Bool} (hp : p = (xs, b)) : RetL w xs b e w' := by
  subst hp
  obtain ⟨v, h1, h2, h3⟩ := h
  obtain ⟨a, n, c, rfl⟩ := h2.r.form3
  exact ⟨a, n, c, h1, h2.r, h3⟩
def RetZ (w : World) (x : Int) (b : Bool) (e : Ending) (w' : World) : Prop := e = .returned (.tuple #[.int .i64 x, .bool b]) ∧ Below w.heap.size w w'
theorem retZ_of {w w' : World} {p : Int × Bool} {e : Ending} (h : e = .returned (.tuple #[.int .i64 p.1, .bool p.2]) ∧ Below w.heap.size w w') {x : Int} {b : Bool} (hp : p = (x, b)) : RetZ w x b e w' := by subst hp; exact h
def RetT (w : World) (x : Bool) (b : Bool) (e : Ending) (w' : World) : Prop := e = .returned (.tuple #[.bool x, .bool b]) ∧ Below w.heap.size w w'
theorem retT_of {w w' : World} {p : Bool × Bool} {e : Ending} (h : e = .returned (.tuple #[.bool p.1, .bool p.2]) ∧ Below w.heap.size w w') {x : Bool} {b : Bool} (hp : p = (x, b)) : RetT w x b e w' := by subst hp; exact h
def RetZZ (w : World) (x y : Int) (b : Bool) (e : Ending) (w' : World) : Prop := e = .returned (.tuple #[.int .i64 x, .int .i64 y, .bool b]) ∧ Below w.heap.size w w'
theorem retZZ_of {w w' : World} {p : Int × Int × Bool} {e : Ending} (h : e = .returned (.tuple #[.int .i64 p.1, .int .i64 p.2.1, .bool p.2.2]) ∧ Below w.heap.size w w') {x y : Int} {b : Bool} (hp : p = (x, y, b)) : RetZZ w x y b e w' := by subst hp; exact h

/-- more bytes than a million and a bit -/
def bigB (n m : Nat) : Bool := decide (1048576 < n) || decide (1048576 - (n : Int) < m)
end Go.Proofs.YtcgcgmlonhganaaGreat

/- IsBinaryTree of the program. -/
namespace Go.Proofs.YtcgcgmlonhganaaGreat
open Go.RowKit
open Go.Lib (hid)

set_option maxHeartbeats 1000000 in
theorem iIsBinaryTree_u (v : Value) (M : List (List Int)) (w : World) (h : RMat w v M) :
    Calls Tryz.prog 9 #[v] w fun e w' => e = .returned (.tuple #[.bool (binB M).1, .bool (binB M).2]) ∧ Below w.heap.size w w' := by
  have HR := hid h
  obtain ⟨a, cap, rfl, q1, q2, hc⟩ := h
  clear hc
  unfold maxLen at q2
  rcases Bool.eq_false_or_eq_true (treeB M) with t | t
  · have HM := hid (binB_yes t)
    have HT := hid t
    have h7 := (metB_parts (treeB_met t)).2.1
    have f0 : IntKind.i64.wrap ((M.length : Int) - 3) = (M.length : Int) - 3 := IntWalk.i64_in _ (by omega)
    go_enter Tryz.func9, Tryz.ntmps9
    go_wp2_with fail
    refine (isTreeMetric_c _ M _ HR.out).mono ?_
    rintro e w1 ⟨rfl, hb1⟩
    rw [t]
    have h1 := HR.out.keep hb1
    have HB1 := hid hb1
    clear hb1
    go_wp2_with fail
    refine (innerSplits_c _ M _ (treeB_met HT.out) h1).mono ?_
    rintro e w2 ⟨u, rfl, hF, hb2⟩
    obtain ⟨au, cu, rfl⟩ := hF.form
    have HB2 := hid (HB1.out.trans (hb2.mono HB1.out.size))
    clear hF hb2 h1
    obtain ⟨N, hN⟩ : ∃ N, (innerL M).length = N := ⟨_, rfl⟩
    rw [hN] at HM ⊢
    clear hN
    go_wp2
    all_goals
      go_ret2
      refine ⟨?_, HB2.out⟩
      rw [HM.out]
      first | rfl | (simp; omega) | (congr 4; omega)
  · have HM := hid (binB_no t)
    go_enter Tryz.func9, Tryz.ntmps9
    go_wp2_with fail
    refine (isTreeMetric_c _ M _ HR.out).mono ?_
    rintro e w1 ⟨rfl, hb1⟩
    rw [t]
    go_wp2
    go_ret2
    exact ⟨by rw [HM.out]; rfl, hb1⟩

end Go.Proofs.YtcgcgmlonhganaaGreat

/- Results of the functions of trees and splits, with names for what is known. -/
namespace Go.Proofs.YtcgcgmlonhganaaGreat
open Go.RowKit
open Go.Lib (hid)

theorem RetMatT.lp {w : World} {p : List (List Int) × Bool} {e : Ending} {w' : World} (h : RetMatT w p e w') {X : List (List Int)} {b : Bool} (hp : p = (X, b)) : ∃ a n c, e = .returned (.tuple #[.slice a n c, .bool b]) ∧ RMat w' (.slice a n c) X ∧ Below w.heap.size w w' := by
  subst hp
  obtain ⟨v, rfl, hF, hb⟩ := h
  obtain ⟨a, n, c, rfl⟩ := hF.form3
  exact ⟨a, n, c, rfl, hF.r, hb⟩
theorem bbLp {w w' : World} {e : Ending} {p : Bool × Bool} (h : e = .returned (.tuple #[.bool p.1, .bool p.2]) ∧ Below w.heap.size w w') {x b : Bool} (hp : p = (x, b)) : e = .returned (.tuple #[.bool x, .bool b]) ∧ Below w.heap.size w w' := by subst hp; exact h
theorem zbLp {w w' : World} {e : Ending} {p : Int × Bool} (h : e = .returned (.tuple #[.int .i64 p.1, .bool p.2]) ∧ Below w.heap.size w w') {x : Int} {b : Bool} (hp : p = (x, b)) : e = .returned (.tuple #[.int .i64 x, .bool b]) ∧ Below w.heap.size w w' := by subst hp; exact h
theorem zzbLp {w w' : World} {e : Ending} {p : (Int × Int) × Bool} (h : e = .returned (.tuple #[.int .i64 p.1.1, .int .i64 p.1.2, .bool p.2]) ∧ Below w.heap.size w w') {x y : Int} {b : Bool} (hp : p = ((x, y), b)) : e = .returned (.tuple #[.int .i64 x, .int .i64 y, .bool b]) ∧ Below w.heap.size w w' := by subst hp; exact h
theorem bbPure {w w' : World} {e : Ending} {p : Bool × Bool} (h : e = .returned (.tuple #[.bool p.1, .bool p.2]) ∧ w = w') {x b : Bool} (hp : p = (x, b)) : e = .returned (.tuple #[.bool x, .bool b]) ∧ Below w.heap.size w w' := by obtain ⟨h1, rfl⟩ := h; subst hp; exact ⟨h1, Below.refl _ _⟩
theorem bPure {w w' : World} {e : Ending} {x y : Bool} (h : e = .returned (.bool x) ∧ w = w') (hx : x = y) : e = .returned (.bool y) ∧ Below w.heap.size w w' := by obtain ⟨h1, rfl⟩ := h; subst hx; exact ⟨h1, Below.refl _ _⟩
theorem rmat_n {w : World} {a : Option Addr} {n c : Nat} {M : List (List Int)} (h : RMat w (.slice a n c) M) : n = M.length ∧ n ≤ 9223372036854775807 := by
  obtain ⟨_, _, he, h1, h2, _⟩ := h
  simp only [Value.slice.injEq] at he
  unfold maxLen at h2
  exact ⟨he.2.1, by omega⟩
theorem rmat_pair {w : World} {u v : Value} {c d : List Int} (h : RInts w u c) (h' : RInts w v d) : RMat (w.alloc (.cells #[u, v] 33)) (.slice (some ⟨w.heap.size, 0, none⟩) 2 2) [c, d] ∧ Below w.heap.size w (w.alloc (.cells #[u, v] 33)) := by
  have hal : Below w.heap.size w (w.alloc (.cells #[u, v] 33)) := (Below.refl _ _).alloc (Nat.le_refl _) _
  have hbx : (w.alloc (.cells #[u, v] 33)).heap[w.heap.size]? = some (.cells #[u, v] 33 (0, 0)) := heap_alloc_new _ _
  refine ⟨⟨_, 2, rfl, Nat.le_refl _, by unfold maxLen; omega, fun i hi => ?_⟩, hal⟩
  rcases (show i = 0 ∨ i = 1 by simp at hi; omega) with rfl | rfl
  · exact ⟨w.heap.size, 0, u, rfl, by rw [cell_of_row _ _ _ _ _ _ hbx]; rfl, h.keep hal⟩
  · exact ⟨w.heap.size, 0, v, rfl, by rw [cell_of_row _ _ _ _ _ _ hbx]; rfl, h'.keep hal⟩
end Go.Proofs.YtcgcgmlonhganaaGreat

namespace Go.Proofs.YtcgcgmlonhganaaGreat
open Go.ChangeShapes Go.WideShapes Go.ChangeAt Go.RowKit
open Go.Lib (hid)

set_option maxRecDepth 100000 in
set_option maxHeartbeats 40000000 in
theorem FnTrees_c (v0 : Value) (x0 : Nat) (v1 : Value) (x1 : Nat) (w : World) (r0 : RBytes w v0 x0) (r1 : RBytes w v1 x1) :
    Calls Tryz.prog 3 #[v0, v1] w fun e w' => e = .returned (.bool true) ∧ Below w.heap.size w w' := by
  have R0 := hid r0
  have R1 := hid r1
  obtain ⟨a0, c0, rfl, hx0, hm0⟩ := r0.form
  obtain ⟨a1, c1, rfl, hx1, hm1⟩ := r1.form
  unfold maxLen at hm0 hm1
  clear r0 r1
  obtain ⟨z, hz⟩ : ∃ z, IntKind.i64.wrap ((x0 : Int) + (x1 : Int)) = z := ⟨_, rfl⟩
  by_cases hbig : 1048576 < z
  · go_enter Tryz.func3, Tryz.ntmps3
    go_wp2
    go_ret
    exact ⟨rfl, Below.refl _ _⟩
  go_enter Tryz.func3, Tryz.ntmps3
  go_wp2_with fail
  refine (DrawTreeDifference_c _ x0 _ R0.out).mono ?_
  rintro e w1 ⟨va, vb, A, B, rfl, hA, hB, hb1⟩
  have HBw1 := hid hb1
  have R1_w1 := hid (R1.out.keep hb1)
  have A_w1 := hid hA
  have B_w1 := hid hB
  obtain ⟨aa, na, ca, rfl⟩ : ∃ a n c, va = .slice a n c := by obtain ⟨a, c, rfl, _⟩ := hA; exact ⟨a, _, c, rfl⟩
  obtain ⟨ab, nb, cb, rfl⟩ : ∃ a n c, vb = .slice a n c := by obtain ⟨a, c, rfl, _⟩ := hB; exact ⟨a, _, c, rfl⟩
  obtain ⟨d, b1, htd⟩ : ∃ d b1, tdB A B = (d, b1) := ⟨_, _, rfl⟩
  have HTD := hid htd
  clear htd
  clear hb1 hA hB
  go_wp2_with fail
  refine ((iTreeDifference_u _ A _ B _ A_w1.out B_w1.out).mono fun e w' h => zbLp h HTD.out).mono ?_
  rintro e w2 ⟨rfl, hb2⟩
  have HBw2 := hid (HBw1.out.trans (hb2.mono HBw1.out.size))
  have R1_w2 := hid (R1_w1.out.keep hb2)
  have A_w2 := hid (A_w1.out.keep hb2)
  have B_w2 := hid (B_w1.out.keep hb2)
  clear hb2
  go_wp2_with fail
  refine ((sTreeDifference_u _ A _ B _ A_w2.out B_w2.out).mono fun e w' h => zbLp h HTD.out).mono ?_
  rintro e w3 ⟨rfl, hb3⟩
  have HBw3 := hid (HBw2.out.trans (hb3.mono HBw2.out.size))
  have R1_w3 := hid (R1_w2.out.keep hb3)
  have A_w3 := hid (A_w2.out.keep hb3)
  have B_w3 := hid (B_w2.out.keep hb3)
  clear hb3
  cases b1
  · as_aux_lemma =>
      go_wp2_with fail
      refine (DrawAreCompatible_c _ x1 _ R1_w3.out).mono ?_
      rintro e w4 ⟨n, vx, vy, X, Y, rfl, hX, hY, hb4⟩
      have HBw4 := hid (HBw3.out.trans (hb4.mono HBw3.out.size))
      have R1_w4 := hid (R1_w3.out.keep hb4)
      have X_w4 := hid hX
      have Y_w4 := hid hY
      obtain ⟨ax, nx, cx, rfl⟩ := hX.form3
      obtain ⟨ay, ny, cy, rfl⟩ := hY.form3
      obtain ⟨c, b2, hcb⟩ : ∃ c b2, compB n X Y = (c, b2) := ⟨_, _, rfl⟩
      have HCB := hid hcb
      obtain ⟨sx, hsx⟩ : ∃ sx, splitB n X = sx := ⟨_, rfl⟩
      obtain ⟨sy, hsy⟩ : ∃ sy, splitB n Y = sy := ⟨_, rfl⟩
      have HSX := hid hsx
      have HSY := hid hsy
      have hb2 : b2 = (sx && sy) := by have := comp_parts (n := n) (x := X) (y := Y); rw [hcb, hsx, hsy] at this; exact this
      have HB2 := hid hb2
      clear hcb hsx hsy hb2
      clear hb4 hX hY
      go_wp2_with fail
      refine ((iAreCompatible_c n _ _ X Y _ X_w4.out Y_w4.out).mono fun e w' h => bbPure h HCB.out).mono ?_
      rintro e w5 ⟨rfl, hb5⟩
      have HBw5 := hid (HBw4.out.trans (hb5.mono HBw4.out.size))
      have R1_w5 := hid (R1_w4.out.keep hb5)
      have X_w5 := hid (X_w4.out.keep hb5)
      have Y_w5 := hid (Y_w4.out.keep hb5)
      clear hb5
      go_wp2_with fail
      refine ((sAreCompatible_c n _ _ X Y _ X_w5.out Y_w5.out).mono fun e w' h => bbPure h HCB.out).mono ?_
      rintro e w6 ⟨rfl, hb6⟩
      have HBw6 := hid (HBw5.out.trans (hb6.mono HBw5.out.size))
      have R1_w6 := hid (R1_w5.out.keep hb6)
      have X_w6 := hid (X_w5.out.keep hb6)
      have Y_w6 := hid (Y_w5.out.keep hb6)
      clear hb6
      go_wp2_with fail
      refine (DrawFirstClash_c _ x1 _ R1_w6.out).mono ?_
      rintro e w7 ⟨m, vl, L, rfl, hL, hb7⟩
      have HBw7 := hid (HBw6.out.trans (hb7.mono HBw6.out.size))
      have X_w7 := hid (X_w6.out.keep hb7)
      have Y_w7 := hid (Y_w6.out.keep hb7)
      have L_w7 := hid hL
      obtain ⟨al, nl, cl, rfl⟩ : ∃ a n c, vl = .slice a n c := by obtain ⟨a, c, rfl, _⟩ := hL; exact ⟨a, _, c, rfl⟩
      obtain ⟨p, q, b3, hcl⟩ : ∃ p q b3, clashB m L = ((p, q), b3) := ⟨_, _, _, rfl⟩
      have HCL := hid hcl
      clear hcl
      clear hb7 hL
      go_wp2_with fail
      refine ((iFirstClash_u m _ L _ L_w7.out).mono fun e w' h => zzbLp h HCL.out).mono ?_
      rintro e w8 ⟨rfl, hb8⟩
      have HBw8 := hid (HBw7.out.trans (hb8.mono HBw7.out.size))
      have X_w8 := hid (X_w7.out.keep hb8)
      have Y_w8 := hid (Y_w7.out.keep hb8)
      have L_w8 := hid (L_w7.out.keep hb8)
      clear hb8
      go_wp2_with fail
      refine ((sFirstClash_u m _ L _ L_w8.out).mono fun e w' h => zzbLp h HCL.out).mono ?_
      rintro e w9 ⟨rfl, hb9⟩
      have HBw9 := hid (HBw8.out.trans (hb9.mono HBw8.out.size))
      have X_w9 := hid (X_w8.out.keep hb9)
      have Y_w9 := hid (Y_w8.out.keep hb9)
      have L_w9 := hid (L_w8.out.keep hb9)
      clear hb9
      go_wp2_with fail
      refine ((iIsSplit_c n _ X _ X_w9.out).mono fun e w' h => bPure h HSX.out).mono ?_
      rintro e w10 ⟨rfl, hb10⟩
      have HBw10 := hid (HBw9.out.trans (hb10.mono HBw9.out.size))
      have X_w10 := hid (X_w9.out.keep hb10)
      have Y_w10 := hid (Y_w9.out.keep hb10)
      have L_w10 := hid (L_w9.out.keep hb10)
      clear hb10
      cases sx
      · obtain rfl : b2 = false := HB2.out
        cases b3
        · go_wp2
          go_ret
          exact ⟨rfl, HBw10.out⟩
        · obtain ⟨i, k, rfl, rfl, hik, hkl, hcomp⟩ := clash_law HCL.out
          obtain ⟨e1, e2⟩ := rmat_n L_w10.out
          have hL := L_w10.out
          obtain ⟨al2, cl2, hv, _, _, hcells⟩ := hL
          simp only [Value.slice.injEq] at hv
          obtain ⟨rfl, -, rfl⟩ := hv
          obtain ⟨gl, ol, r1, rfl, k1, hr1⟩ := hcells i (by omega)
          obtain ⟨gl2, ol2, r2, he, k2, hr2⟩ := hcells k hkl
          simp only [Option.some.injEq, Addr.mk.injEq, and_true] at he
          obtain ⟨rfl, rfl⟩ := he
          obtain ⟨ar1, nr1, cr1, rfl⟩ := hr1.form3
          obtain ⟨ar2, nr2, cr2, rfl⟩ := hr2.form3
          have hiz : (i : Int) < (nl : Int) := by omega
          have hkz : (k : Int) < (nl : Int) := by omega
          have hq : ∀ s : Nat, Calls Tryz.prog 13 #[.int .i64 m, .slice ar1 nr1 cr1, .slice ar2 nr2 cr2] (w10.drewN s) fun e w' => e = .returned (.tuple #[.bool false, .bool true]) ∧ w' = w10.drewN s := fun s =>
            (iAreCompatible_c m _ _ _ _ _ (RInts.drewN hr1) (RInts.drewN hr2)).mono fun e w' h => ⟨by rw [h.1, hcomp], h.2.symm⟩
          have HQ := hid hq
          clear hq hcells hr1 hr2 hcomp e1 e2 hik hkl
          go_wp2
          go_quiet ((go_at_call 13; exact Calls.quiet_of_same (HQ.out _)))
          go_wp2
          go_ret
          exact ⟨rfl, below_dn2 HBw10.out _⟩
      · go_wp2_with fail
        refine ((iIsSplit_c n _ Y _ Y_w10.out).mono fun e w' h => bPure h HSY.out).mono ?_
        rintro e w11 ⟨rfl, hb11⟩
        have HBw11 := hid (HBw10.out.trans (hb11.mono HBw10.out.size))
        have X_w11 := hid (X_w10.out.keep hb11)
        have Y_w11 := hid (Y_w10.out.keep hb11)
        have L_w11 := hid (L_w10.out.keep hb11)
        clear hb11
        cases sy
        · obtain rfl : b2 = false := HB2.out
          cases b3
          · go_wp2
            go_ret
            exact ⟨rfl, HBw11.out⟩
          · obtain ⟨i, k, rfl, rfl, hik, hkl, hcomp⟩ := clash_law HCL.out
            obtain ⟨e1, e2⟩ := rmat_n L_w11.out
            have hL := L_w11.out
            obtain ⟨al2, cl2, hv, _, _, hcells⟩ := hL
            simp only [Value.slice.injEq] at hv
            obtain ⟨rfl, -, rfl⟩ := hv
            obtain ⟨gl, ol, r1, rfl, k1, hr1⟩ := hcells i (by omega)
            obtain ⟨gl2, ol2, r2, he, k2, hr2⟩ := hcells k hkl
            simp only [Option.some.injEq, Addr.mk.injEq, and_true] at he
            obtain ⟨rfl, rfl⟩ := he
            obtain ⟨ar1, nr1, cr1, rfl⟩ := hr1.form3
            obtain ⟨ar2, nr2, cr2, rfl⟩ := hr2.form3
            have hiz : (i : Int) < (nl : Int) := by omega
            have hkz : (k : Int) < (nl : Int) := by omega
            have hq : ∀ s : Nat, Calls Tryz.prog 13 #[.int .i64 m, .slice ar1 nr1 cr1, .slice ar2 nr2 cr2] (w11.drewN s) fun e w' => e = .returned (.tuple #[.bool false, .bool true]) ∧ w' = w11.drewN s := fun s =>
              (iAreCompatible_c m _ _ _ _ _ (RInts.drewN hr1) (RInts.drewN hr2)).mono fun e w' h => ⟨by rw [h.1, hcomp], h.2.symm⟩
            have HQ := hid hq
            clear hq hcells hr1 hr2 hcomp e1 e2 hik hkl
            go_wp2
            go_quiet ((go_at_call 13; exact Calls.quiet_of_same (HQ.out _)))
            go_wp2
            go_ret
            exact ⟨rfl, below_dn2 HBw11.out _⟩
        · obtain rfl : b2 = true := HB2.out
          obtain ⟨_, p2, q2, hc2⟩ := comp_law HCB.out
          have HC2 := hid hc2
          obtain ⟨hrm, hab⟩ := rmat_pair X_w11.out Y_w11.out
          have LT_x := hid hrm
          have HAB := hid hab
          have HBL := hid (HBw11.out.trans (hab.mono HBw11.out.size))
          have L_x := hid (L_w11.out.keep hab)
          clear hc2 hrm hab
          go_wp2_with fail
          refine ((iFirstClash_u n _ [X, Y] _ LT_x.out).mono fun e w' h => zzbLp h HC2.out).mono ?_
          rintro e w12 ⟨rfl, hb12⟩
          have HBw12 := hid (HBL.out.trans (hb12.mono HBL.out.size))
          have L_w12 := hid (L_x.out.keep hb12)
          have LT_w12 := hid (LT_x.out.keep hb12)
          clear hb12
          cases c
          all_goals
            cases b3
            · go_wp2
              go_ret
              exact ⟨rfl, HBw12.out⟩
            · obtain ⟨i, k, rfl, rfl, hik, hkl, hcomp⟩ := clash_law HCL.out
              obtain ⟨e1, e2⟩ := rmat_n L_w12.out
              have hL := L_w12.out
              obtain ⟨al2, cl2, hv, _, _, hcells⟩ := hL
              simp only [Value.slice.injEq] at hv
              obtain ⟨rfl, -, rfl⟩ := hv
              obtain ⟨gl, ol, r1, rfl, k1, hr1⟩ := hcells i (by omega)
              obtain ⟨gl2, ol2, r2, he, k2, hr2⟩ := hcells k hkl
              simp only [Option.some.injEq, Addr.mk.injEq, and_true] at he
              obtain ⟨rfl, rfl⟩ := he
              obtain ⟨ar1, nr1, cr1, rfl⟩ := hr1.form3
              obtain ⟨ar2, nr2, cr2, rfl⟩ := hr2.form3
              have hiz : (i : Int) < (nl : Int) := by omega
              have hkz : (k : Int) < (nl : Int) := by omega
              have hq : ∀ s : Nat, Calls Tryz.prog 13 #[.int .i64 m, .slice ar1 nr1 cr1, .slice ar2 nr2 cr2] (w12.drewN s) fun e w' => e = .returned (.tuple #[.bool false, .bool true]) ∧ w' = w12.drewN s := fun s =>
                (iAreCompatible_c m _ _ _ _ _ (RInts.drewN hr1) (RInts.drewN hr2)).mono fun e w' h => ⟨by rw [h.1, hcomp], h.2.symm⟩
              have HQ := hid hq
              clear hq hcells hr1 hr2 hcomp e1 e2 hik hkl
              go_wp2
              go_quiet ((go_at_call 13; exact Calls.quiet_of_same (HQ.out _)))
              go_wp2
              go_ret
              exact ⟨rfl, below_dn2 HBw12.out _⟩
  · obtain ⟨hba, haa, IA, IB, x, hia, hib, hx, hla, hlb, c0, hc0, hd0⟩ := td_law HTD.out
    have HBA := hid hba
    have HAA := hid haa
    have HIA := hid hia
    have HIB := hid hib
    have HX := hid hx
    have HL := hid (And.intro hla hlb)
    have HC0 := hid (And.intro hc0 hd0)
    clear hba haa hia hib hx hla hlb hc0 hd0
    go_wp2_with fail
    refine ((iTreeDifference_u _ B _ A _ B_w3.out A_w3.out).mono fun e w' h => zbLp h HBA.out).mono ?_
    rintro e w4 ⟨rfl, hb4⟩
    have HBw4 := hid (HBw3.out.trans (hb4.mono HBw3.out.size))
    have R1_w4 := hid (R1_w3.out.keep hb4)
    have A_w4 := hid (A_w3.out.keep hb4)
    have B_w4 := hid (B_w3.out.keep hb4)
    clear hb4
    go_wp2_with fail
    refine ((iTreeDifference_u _ A _ A _ A_w4.out A_w4.out).mono fun e w' h => zbLp h HAA.out).mono ?_
    rintro e w5 ⟨rfl, hb5⟩
    have HBw5 := hid (HBw4.out.trans (hb5.mono HBw4.out.size))
    have R1_w5 := hid (R1_w4.out.keep hb5)
    have A_w5 := hid (A_w4.out.keep hb5)
    have B_w5 := hid (B_w4.out.keep hb5)
    clear hb5
    go_wp2_with fail
    refine ((iInnerSplits_u _ A _ A_w5.out).mono fun e w' h => h.lp HIA.out).mono ?_
    rintro e w6 ⟨a6, n6, c6, rfl, hp6, hb6⟩
    have HBw6 := hid (HBw5.out.trans (hb6.mono HBw5.out.size))
    have R1_w6 := hid (R1_w5.out.keep hb6)
    have A_w6 := hid (A_w5.out.keep hb6)
    have B_w6 := hid (B_w5.out.keep hb6)
    have I1_w6 := hid hp6
    clear hb6 hp6
    go_wp2_with fail
    refine ((sInnerSplits_u _ A _ A_w6.out).mono fun e w' h => h.lp HIA.out).mono ?_
    rintro e w7 ⟨a7, n7, c7, rfl, hp7, hb7⟩
    have HBw7 := hid (HBw6.out.trans (hb7.mono HBw6.out.size))
    have R1_w7 := hid (R1_w6.out.keep hb7)
    have A_w7 := hid (A_w6.out.keep hb7)
    have B_w7 := hid (B_w6.out.keep hb7)
    have I1_w7 := hid (I1_w6.out.keep hb7)
    have I2_w7 := hid hp7
    clear hb7 hp7
    go_wp2_with fail
    refine ((iInnerSplits_u _ B _ B_w7.out).mono fun e w' h => h.lp HIB.out).mono ?_
    rintro e w8 ⟨a8, n8, c8, rfl, hp8, hb8⟩
    have HBw8 := hid (HBw7.out.trans (hb8.mono HBw7.out.size))
    have R1_w8 := hid (R1_w7.out.keep hb8)
    have A_w8 := hid (A_w7.out.keep hb8)
    have B_w8 := hid (B_w7.out.keep hb8)
    have I1_w8 := hid (I1_w7.out.keep hb8)
    have I2_w8 := hid (I2_w7.out.keep hb8)
    have J1_w8 := hid hp8
    clear hb8 hp8
    go_wp2_with fail
    refine ((iIsBinaryTree_u _ A _ A_w8.out).mono fun e w' h => bbLp h HX.out).mono ?_
    rintro e w9 ⟨rfl, hb9⟩
    have HBw9 := hid (HBw8.out.trans (hb9.mono HBw8.out.size))
    have R1_w9 := hid (R1_w8.out.keep hb9)
    have A_w9 := hid (A_w8.out.keep hb9)
    have B_w9 := hid (B_w8.out.keep hb9)
    have I1_w9 := hid (I1_w8.out.keep hb9)
    have I2_w9 := hid (I2_w8.out.keep hb9)
    have J1_w9 := hid (J1_w8.out.keep hb9)
    clear hb9
    go_wp2_with fail
    refine ((sIsBinaryTree_u _ A _ A_w9.out).mono fun e w' h => bbLp h HX.out).mono ?_
    rintro e w10 ⟨rfl, hb10⟩
    have HBw10 := hid (HBw9.out.trans (hb10.mono HBw9.out.size))
    have R1_w10 := hid (R1_w9.out.keep hb10)
    have A_w10 := hid (A_w9.out.keep hb10)
    have B_w10 := hid (B_w9.out.keep hb10)
    have I1_w10 := hid (I1_w9.out.keep hb10)
    have I2_w10 := hid (I2_w9.out.keep hb10)
    have J1_w10 := hid (J1_w9.out.keep hb10)
    clear hb10
    obtain ⟨e1, _⟩ := rmat_n I1_w10.out
    obtain ⟨e2, _⟩ := rmat_n J1_w10.out
    have hLL := HL.out
    have hCC := HC0.out
    rw [← e1, ← e2] at hLL hCC
    obtain ⟨hL1, hL2⟩ := hLL
    obtain ⟨hC1, hC2⟩ := hCC
    have f1 : IntKind.i64.wrap ((n6 : Int) + (n8 : Int)) = (n6 : Int) + (n8 : Int) := IntWalk.i64_in _ (by omega)
    have f2 : IntKind.i64.wrap (d - (n6 : Int)) = d - (n6 : Int) := IntWalk.i64_in _ (by omega)
    have f3 : IntKind.i64.wrap (d - (n6 : Int) - (n8 : Int)) = d - (n6 : Int) - (n8 : Int) := IntWalk.i64_in _ (by omega)
    have f4 : ¬ (d > (n6 : Int) + (n8 : Int)) := by omega
    have f5 : (d - (n6 : Int) - (n8 : Int)).tmod 2 = 0 := by rw [show d - (n6 : Int) - (n8 : Int) = 2 * (-(c0 : Int)) by omega, Int.mul_tmod_right]
    clear HL HC0 e1 e2 hL1 hL2 hC1 hC2
    go_wp2_with fail
    refine (qLists_y _ _ IA _ I1_w10.out I2_w10.out).mono ?_
    rintro e w11 ⟨rfl, hb11⟩
    have HBw11 := hid (HBw10.out.trans (hb11.mono HBw10.out.size))
    have R1_w11 := hid (R1_w10.out.keep hb11)
    have I1_w11 := hid (I1_w10.out.keep hb11)
    have I2_w11 := hid (I2_w10.out.keep hb11)
    clear hb11
    as_aux_lemma =>
      go_wp2_with fail
      refine (DrawAreCompatible_c _ x1 _ R1_w11.out).mono ?_
      rintro e w12 ⟨n, vx, vy, X, Y, rfl, hX, hY, hb12⟩
      have HBw12 := hid (HBw11.out.trans (hb12.mono HBw11.out.size))
      have R1_w12 := hid (R1_w11.out.keep hb12)
      have X_w12 := hid hX
      have Y_w12 := hid hY
      obtain ⟨ax, nx, cx, rfl⟩ := hX.form3
      obtain ⟨ay, ny, cy, rfl⟩ := hY.form3
      obtain ⟨c, b2, hcb⟩ : ∃ c b2, compB n X Y = (c, b2) := ⟨_, _, rfl⟩
      have HCB := hid hcb
      obtain ⟨sx, hsx⟩ : ∃ sx, splitB n X = sx := ⟨_, rfl⟩
      obtain ⟨sy, hsy⟩ : ∃ sy, splitB n Y = sy := ⟨_, rfl⟩
      have HSX := hid hsx
      have HSY := hid hsy
      have hb2 : b2 = (sx && sy) := by have := comp_parts (n := n) (x := X) (y := Y); rw [hcb, hsx, hsy] at this; exact this
      have HB2 := hid hb2
      clear hcb hsx hsy hb2
      clear hb12 hX hY
      go_wp2_with fail
      refine ((iAreCompatible_c n _ _ X Y _ X_w12.out Y_w12.out).mono fun e w' h => bbPure h HCB.out).mono ?_
      rintro e w13 ⟨rfl, hb13⟩
      have HBw13 := hid (HBw12.out.trans (hb13.mono HBw12.out.size))
      have R1_w13 := hid (R1_w12.out.keep hb13)
      have X_w13 := hid (X_w12.out.keep hb13)
      have Y_w13 := hid (Y_w12.out.keep hb13)
      clear hb13
      go_wp2_with fail
      refine ((sAreCompatible_c n _ _ X Y _ X_w13.out Y_w13.out).mono fun e w' h => bbPure h HCB.out).mono ?_
      rintro e w14 ⟨rfl, hb14⟩
      have HBw14 := hid (HBw13.out.trans (hb14.mono HBw13.out.size))
      have R1_w14 := hid (R1_w13.out.keep hb14)
      have X_w14 := hid (X_w13.out.keep hb14)
      have Y_w14 := hid (Y_w13.out.keep hb14)
      clear hb14
      go_wp2_with fail
      refine (DrawFirstClash_c _ x1 _ R1_w14.out).mono ?_
      rintro e w15 ⟨m, vl, L, rfl, hL, hb15⟩
      have HBw15 := hid (HBw14.out.trans (hb15.mono HBw14.out.size))
      have X_w15 := hid (X_w14.out.keep hb15)
      have Y_w15 := hid (Y_w14.out.keep hb15)
      have L_w15 := hid hL
      obtain ⟨al, nl, cl, rfl⟩ : ∃ a n c, vl = .slice a n c := by obtain ⟨a, c, rfl, _⟩ := hL; exact ⟨a, _, c, rfl⟩
      obtain ⟨p, q, b3, hcl⟩ : ∃ p q b3, clashB m L = ((p, q), b3) := ⟨_, _, _, rfl⟩
      have HCL := hid hcl
      clear hcl
      clear hb15 hL
      go_wp2_with fail
      refine ((iFirstClash_u m _ L _ L_w15.out).mono fun e w' h => zzbLp h HCL.out).mono ?_
      rintro e w16 ⟨rfl, hb16⟩
      have HBw16 := hid (HBw15.out.trans (hb16.mono HBw15.out.size))
      have X_w16 := hid (X_w15.out.keep hb16)
      have Y_w16 := hid (Y_w15.out.keep hb16)
      have L_w16 := hid (L_w15.out.keep hb16)
      clear hb16
      go_wp2_with fail
      refine ((sFirstClash_u m _ L _ L_w16.out).mono fun e w' h => zzbLp h HCL.out).mono ?_
      rintro e w17 ⟨rfl, hb17⟩
      have HBw17 := hid (HBw16.out.trans (hb17.mono HBw16.out.size))
      have X_w17 := hid (X_w16.out.keep hb17)
      have Y_w17 := hid (Y_w16.out.keep hb17)
      have L_w17 := hid (L_w16.out.keep hb17)
      clear hb17
      go_wp2_with fail
      refine ((iIsSplit_c n _ X _ X_w17.out).mono fun e w' h => bPure h HSX.out).mono ?_
      rintro e w18 ⟨rfl, hb18⟩
      have HBw18 := hid (HBw17.out.trans (hb18.mono HBw17.out.size))
      have X_w18 := hid (X_w17.out.keep hb18)
      have Y_w18 := hid (Y_w17.out.keep hb18)
      have L_w18 := hid (L_w17.out.keep hb18)
      clear hb18
      cases sx
      · obtain rfl : b2 = false := HB2.out
        cases b3
        · go_wp2
          go_ret
          exact ⟨rfl, HBw18.out⟩
        · obtain ⟨i, k, rfl, rfl, hik, hkl, hcomp⟩ := clash_law HCL.out
          obtain ⟨e1, e2⟩ := rmat_n L_w18.out
          have hL := L_w18.out
          obtain ⟨al2, cl2, hv, _, _, hcells⟩ := hL
          simp only [Value.slice.injEq] at hv
          obtain ⟨rfl, -, rfl⟩ := hv
          obtain ⟨gl, ol, r1, rfl, k1, hr1⟩ := hcells i (by omega)
          obtain ⟨gl2, ol2, r2, he, k2, hr2⟩ := hcells k hkl
          simp only [Option.some.injEq, Addr.mk.injEq, and_true] at he
          obtain ⟨rfl, rfl⟩ := he
          obtain ⟨ar1, nr1, cr1, rfl⟩ := hr1.form3
          obtain ⟨ar2, nr2, cr2, rfl⟩ := hr2.form3
          have hiz : (i : Int) < (nl : Int) := by omega
          have hkz : (k : Int) < (nl : Int) := by omega
          have hq : ∀ s : Nat, Calls Tryz.prog 13 #[.int .i64 m, .slice ar1 nr1 cr1, .slice ar2 nr2 cr2] (w18.drewN s) fun e w' => e = .returned (.tuple #[.bool false, .bool true]) ∧ w' = w18.drewN s := fun s =>
            (iAreCompatible_c m _ _ _ _ _ (RInts.drewN hr1) (RInts.drewN hr2)).mono fun e w' h => ⟨by rw [h.1, hcomp], h.2.symm⟩
          have HQ := hid hq
          clear hq hcells hr1 hr2 hcomp e1 e2 hik hkl
          go_wp2
          go_quiet ((go_at_call 13; exact Calls.quiet_of_same (HQ.out _)))
          go_wp2
          go_ret
          exact ⟨rfl, below_dn2 HBw18.out _⟩
      · go_wp2_with fail
        refine ((iIsSplit_c n _ Y _ Y_w18.out).mono fun e w' h => bPure h HSY.out).mono ?_
        rintro e w19 ⟨rfl, hb19⟩
        have HBw19 := hid (HBw18.out.trans (hb19.mono HBw18.out.size))
        have X_w19 := hid (X_w18.out.keep hb19)
        have Y_w19 := hid (Y_w18.out.keep hb19)
        have L_w19 := hid (L_w18.out.keep hb19)
        clear hb19
        cases sy
        · obtain rfl : b2 = false := HB2.out
          cases b3
          · go_wp2
            go_ret
            exact ⟨rfl, HBw19.out⟩
          · obtain ⟨i, k, rfl, rfl, hik, hkl, hcomp⟩ := clash_law HCL.out
            obtain ⟨e1, e2⟩ := rmat_n L_w19.out
            have hL := L_w19.out
            obtain ⟨al2, cl2, hv, _, _, hcells⟩ := hL
            simp only [Value.slice.injEq] at hv
            obtain ⟨rfl, -, rfl⟩ := hv
            obtain ⟨gl, ol, r1, rfl, k1, hr1⟩ := hcells i (by omega)
            obtain ⟨gl2, ol2, r2, he, k2, hr2⟩ := hcells k hkl
            simp only [Option.some.injEq, Addr.mk.injEq, and_true] at he
            obtain ⟨rfl, rfl⟩ := he
            obtain ⟨ar1, nr1, cr1, rfl⟩ := hr1.form3
            obtain ⟨ar2, nr2, cr2, rfl⟩ := hr2.form3
            have hiz : (i : Int) < (nl : Int) := by omega
            have hkz : (k : Int) < (nl : Int) := by omega
            have hq : ∀ s : Nat, Calls Tryz.prog 13 #[.int .i64 m, .slice ar1 nr1 cr1, .slice ar2 nr2 cr2] (w19.drewN s) fun e w' => e = .returned (.tuple #[.bool false, .bool true]) ∧ w' = w19.drewN s := fun s =>
              (iAreCompatible_c m _ _ _ _ _ (RInts.drewN hr1) (RInts.drewN hr2)).mono fun e w' h => ⟨by rw [h.1, hcomp], h.2.symm⟩
            have HQ := hid hq
            clear hq hcells hr1 hr2 hcomp e1 e2 hik hkl
            go_wp2
            go_quiet ((go_at_call 13; exact Calls.quiet_of_same (HQ.out _)))
            go_wp2
            go_ret
            exact ⟨rfl, below_dn2 HBw19.out _⟩
        · obtain rfl : b2 = true := HB2.out
          obtain ⟨_, p2, q2, hc2⟩ := comp_law HCB.out
          have HC2 := hid hc2
          obtain ⟨hrm, hab⟩ := rmat_pair X_w19.out Y_w19.out
          have LT_x := hid hrm
          have HAB := hid hab
          have HBL := hid (HBw19.out.trans (hab.mono HBw19.out.size))
          have L_x := hid (L_w19.out.keep hab)
          clear hc2 hrm hab
          go_wp2_with fail
          refine ((iFirstClash_u n _ [X, Y] _ LT_x.out).mono fun e w' h => zzbLp h HC2.out).mono ?_
          rintro e w20 ⟨rfl, hb20⟩
          have HBw20 := hid (HBL.out.trans (hb20.mono HBL.out.size))
          have L_w20 := hid (L_x.out.keep hb20)
          have LT_w20 := hid (LT_x.out.keep hb20)
          clear hb20
          cases c
          all_goals
            cases b3
            · go_wp2
              go_ret
              exact ⟨rfl, HBw20.out⟩
            · obtain ⟨i, k, rfl, rfl, hik, hkl, hcomp⟩ := clash_law HCL.out
              obtain ⟨e1, e2⟩ := rmat_n L_w20.out
              have hL := L_w20.out
              obtain ⟨al2, cl2, hv, _, _, hcells⟩ := hL
              simp only [Value.slice.injEq] at hv
              obtain ⟨rfl, -, rfl⟩ := hv
              obtain ⟨gl, ol, r1, rfl, k1, hr1⟩ := hcells i (by omega)
              obtain ⟨gl2, ol2, r2, he, k2, hr2⟩ := hcells k hkl
              simp only [Option.some.injEq, Addr.mk.injEq, and_true] at he
              obtain ⟨rfl, rfl⟩ := he
              obtain ⟨ar1, nr1, cr1, rfl⟩ := hr1.form3
              obtain ⟨ar2, nr2, cr2, rfl⟩ := hr2.form3
              have hiz : (i : Int) < (nl : Int) := by omega
              have hkz : (k : Int) < (nl : Int) := by omega
              have hq : ∀ s : Nat, Calls Tryz.prog 13 #[.int .i64 m, .slice ar1 nr1 cr1, .slice ar2 nr2 cr2] (w20.drewN s) fun e w' => e = .returned (.tuple #[.bool false, .bool true]) ∧ w' = w20.drewN s := fun s =>
                (iAreCompatible_c m _ _ _ _ _ (RInts.drewN hr1) (RInts.drewN hr2)).mono fun e w' h => ⟨by rw [h.1, hcomp], h.2.symm⟩
              have HQ := hid hq
              clear hq hcells hr1 hr2 hcomp e1 e2 hik hkl
              go_wp2
              go_quiet ((go_at_call 13; exact Calls.quiet_of_same (HQ.out _)))
              go_wp2
              go_ret
              exact ⟨rfl, below_dn2 HBw20.out _⟩

set_option maxRecDepth 100000 in
theorem fnTrees_lifted (os : Os) (started : os.Started) (H : Type) (enc : TypeId × Value → H) :
    ReturnsInHanded {} Tryz.checked os 3 .any (Rows.fnTreesSpec.pre6 enc Tryz.prog Tryz.f3 Rows.fnTreesRow.domain false) (Rows.fnTreesSpec.post enc Tryz.prog Tryz.f3 false true false false) := by
  refine returnsInHanded_of_change (C := Tryz.checked) Tryz.own' started (by kernel_rfl) Tryz.func3
    (ChangeSpec.witness6 (enc := enc) (C := Tryz.checked) false ⟨#[], #[.slice none 0 0, .slice none 0 0], []⟩ 8 (by kernel_rfl) (by kernel_rfl) (by kernel_rfl) (by kernel_rfl)) ?_
  intro W base args ds gs before hval0 hW hcnd _
  have hval : ∀ (j : Nat) t v, Tryz.f3.params[j]? = some t → args[j]? = some v → Value.okWide Tryz.prog W .any base t v := hval0
  have hW' := hW
  obtain ⟨p, q, hA0, hV, rfl, hfz, hnd⟩ := hW
  have hA : DataW.TrodAll enc Tryz.prog W 0 (fun _ => true) true Tryz.f3.params.toList args.toList ds p := hA0
  rw [Tryz.params3] at hA hval
  obtain ⟨v0, vs0, d0, ds0, p0, q0, hargs, rfl, rfl, h0, t0⟩ := trodAll_cons hA
  obtain ⟨v1, vs1, d1, ds1, p1, q1, rfl, rfl, rfl, h1, t1⟩ := trodAll_cons t0
  obtain ⟨rfl, rfl, rfl⟩ := trodAll_nil t1
  obtain rfl : args = #[v0, v1] := by cases args; simp_all
  obtain ⟨rfl, rfl⟩ := trodVars_none hV
  have k0 := h0
  have lt0 := trod_blocks k0
  obtain ⟨x0, r0, i0⟩ := open_rbytes (hval 0 22 v0 rfl rfl) h0
  have k1 := h1
  have lt1 := trod_blocks k1
  obtain ⟨x1, r1, i1⟩ := open_rbytes (hval 1 22 v1 rfl rfl) h1
  clear hA0 hval0
  refine (FnTrees_c v0 x0 v1 x1 W r0 r1).mono fun e W' ⟨he, bel⟩ => ?_
  subst he
  exact ⟨_, rfl, _, _, _, [], _, [], hW', trodAll_mk1 (shut_bool Tryz.underlying4 _), (trodAll_cons_mk (Below.trod Tryz.laidOut' (by kernel_rfl) (of_decide_eq_true (by kernel_rfl)) k0 bel lt0) (trodAll_cons_mk (Below.trod Tryz.laidOut' (by kernel_rfl) (of_decide_eq_true (by kernel_rfl)) k1 bel lt1) trodAll_mk0)), rfl, bel.frame _, fun h => by cases h⟩

theorem fnTrees_holds : Rows.FnTreesSaid :=
  OpenClaim.holds_of_wide 3 Tryz.f3 rfl rfl rfl rfl rfl rfl rfl ⟨rfl, rfl, rfl, rfl, rfl⟩ rfl rfl rfl rfl rfl (by kernel_rfl) Tryz.func3 (by kernel_rfl)
    (of_decide_eq_true (by kernel_rfl)) (by unfold Func.isWrapper; first | (rw [if_pos (by decide +kernel)]; kernel_rfl) | (rw [if_neg (by decide +kernel)]; exact ⟨rfl, rfl⟩))
    (fun os started H enc _ => fnTrees_lifted os started H enc)

end Go.Proofs.YtcgcgmlonhganaaGreat

