/- l1Put, and where its result lies. -/
import Derived.Test.YtifdhapaonideaaPut
namespace Go.Proofs.Ytifdhapaonideaa
open Go.RowKit
open Go.Lib (hid)

/-- a slice's cells lie from block B on -/
def AtB (v : Value) (B : Nat) : Prop := ∀ (a : Addr) (n c : Nat), v = .slice (some a) n c → B ≤ a.block
def AtA (a : Option Addr) (B : Nat) : Prop := ∀ x : Addr, a = some x → B ≤ x.block
theorem AtA.b {a : Option Addr} {B n c : Nat} (h : AtA a B) : AtB (.slice a n c) B := fun x _ _ e => by cases e; exact h x rfl
theorem AtB.a {a : Option Addr} {B n c : Nat} (h : AtB (.slice a n c) B) : AtA a B := fun x e => h x n c (by rw [e])
theorem atB_of {w : World} {lo hi : Nat} {v : Value} {xs : List Int} (h : FInts w lo hi v xs) {B : Nat} (hB : B ≤ lo) : AtB v B := by
  intro a n c e
  rcases h.1.2 with ⟨e2, _⟩ | ⟨g, cap, cur, e2, hb, _⟩
  · rw [e2] at e; cases e
  · rw [e2] at e; cases e; exact Nat.le_trans hB hb
/-- a list that is read only; new, if the argument is -/
def RetRB (w : World) (v : Value) (xs : List Int) (e : Ending) (w' : World) : Prop := ∃ u, e = .returned u ∧ RInts w' u xs ∧ Below w.heap.size w w' ∧ ∀ B, B ≤ w.heap.size → AtB v B → AtB u B
/-- cells that lie from block B on are read behind writes below it -/
theorem RInts.far {w w' : World} {v : Value} {xs : List Int} {lo hi B : Nat} (h : RInts w v xs) (ha : AtB v B) (ht : Touch lo hi w w') (hB : hi ≤ B) : RInts w' v xs := by
  obtain ⟨a, cap, rfl, h1, h2, hc⟩ := h
  refine ⟨a, cap, rfl, h1, h2, fun i hi' => ?_⟩
  obtain ⟨g, o, e, hcell⟩ := hc i hi'
  subst e
  have hb := ha _ _ _ rfl
  dsimp only at hb
  refine ⟨g, o, rfl, ?_⟩
  rw [← hcell]
  simp [World.cell?, ht.block g (cell_lt hcell) (by omega)]

set_option maxRecDepth 100000 in
set_option maxHeartbeats 1000000 in
theorem l1Put_n (v : Value) (l : List Int) (x : Int) (w : World) (h : RInts w v l) (hl : l.length ≤ 1048576) :
    Calls Try.prog 103 #[v, .int .i64 x] w (RetRB w v (putL l x)) := by
  have hR := h
  obtain ⟨a, cap, rfl, h1, h2, hc⟩ := h
  unfold maxLen at h2
  have HR := hid hR; clear hR
  go_enter Try.func103, Try.ntmps103
  go_wp2
  go_loop [5] (fun i => ∃ k : Nat, k ≤ l.length ∧ i = .int .i64 k ∧ putL l x = l.take k ++ putL (l.drop k) x) (fun i => l.length - (intOf i).toNat)
  case atStart => exact ⟨0, Nat.zero_le _, rfl, rfl⟩
  case round =>
    obtain ⟨k, hk, rfl, hr⟩ := hrel
    have HP := hid hr; clear hr
    have hlk : (l.take k).length = k := by rw [List.length_take]; omega
    have hsp := List.take_append_drop k l
    by_cases hlt : k < l.length
    · obtain ⟨g, o, y, rfl, hk, HD, HX⟩ := ints_at hc hlt
      have hkz : (k : Int) < (l.length : Int) := by omega
      have hts : l.take (k + 1) = l.take k ++ [y] := by
        rw [List.take_succ_eq_append_getElem hlt]; have := HX.out; simp [List.getD, hlt] at this; rw [this]
      have HTS := hid hts; clear hts
      have HSP := hid hsp; clear hsp
      clear hc
      by_cases hyx : y < x
      · clear hlk
        go_wp2
        go_round
        case rel => exact ⟨k + 1, by omega, by go_num, by rw [HP.out, HD.out, putL_less _ hyx, HTS.out, List.append_assoc]; rfl⟩
        case measure => simp [intOf]; omega
      · by_cases hye : y = x
        · have t1 : (y == x) = true := by rw [beq_iff_eq]; exact hye
          have HYE := hid hye; clear hye
          clear hlk
          go_wp2
          go_ret
          exact ⟨_, rfl, by rw [HP.out, HD.out, putL_same _ HYE.out, ← HD.out, HSP.out]; exact HR.out, Below.refl _ _, fun _ _ h => h⟩
        · have t1 : (y == x) = false := by rw [beq_eq_false_iff_ne]; exact hye
          have HPP : Hid (putL l x = (l.take k ++ [x]) ++ l.drop k) := by
            show _ = _
            rw [HP.out, HD.out, putL_more _ (by omega), List.append_assoc]; rfl
          have hF0 := ints_empty w w.heap.size (Nat.le_refl _)
          have hB0 : Below w.heap.size w (w.alloc (.cells #[] 3)) := (Below.refl _ _).alloc (Nat.le_refl _) _
          have hR1 := rints_take (HR.out.keep hB0) (show k ≤ l.length by omega)
          have hR2 := rints_drop HR.out (show k ≤ l.length by omega)
          have hll : ([] : List Int).length + (l.take k).length ≤ 1099511627776 := by rw [hlk]; simp; omega
          have HB0 := hid hB0
          have f0 : (k : Int) ≤ (cap : Int) := by omega
          have f5 : (l.length : Int) ≤ (cap : Int) := by omega
          clear hye hlk hB0
          go_wp2_with (at_builtin; first
            | (refine wpList_append_ints rfl (.tmp 34) (.tmp 37) rfl w.heap.size _ _ _ [] (l.take k) rfl rfl hF0 hR1 hll (by simp) ?_; intro v2 w2 hF2 hg2 hn2; have hb2 := HB0.out.grown hg2 (by simp) (fun q hq => by cases hq; exact Nat.le_refl _); have HB2 := hid hb2; obtain ⟨av2, nv2, cv2, rfl⟩ := hF2.form3; have hpre := push_pre hF2 x; have hp1 := hpre.1; have hp2 := hpre.2.1; have hs2 : w.heap.size ≤ w2.heap.size := hb2.size; clear hF2 hg2 hn2 hb2 hpre)
            | (refine wpList_append_ints rfl (.tmp 39) (.tmp 41) rfl w.heap.size _ _ _ ([] ++ l.take k) [x] rfl rfl hp1 hp2 (by simp; omega) (by simp; omega) ?_; intro v3 w3 hF3 hg3 hn3; have hb3 := (HB2.out.trans (((Below.refl _ _).alloc (Nat.le_refl _) _ : Below w2.heap.size w2 (w2.alloc (.cells #[.int .i64 x] 3))).mono hs2)).grown hg3 (by simp; omega) (fun q hq => (hp1.1.lt q hq).1); have HB3 := hid hb3; have hs3 : w.heap.size ≤ w3.heap.size := hb3.size; obtain ⟨av3, nv3, cv3, rfl⟩ := hF3.form3; have hR3 := hR2.keep hb3; clear hg3 hn3 hb3)
            | (refine wpList_append_ints rfl (.tmp 43) (.tmp 46) rfl w.heap.size _ _ _ (([] ++ l.take k) ++ [x]) (l.drop k) rfl rfl hF3 hR3 (by simp; omega) hs3 ?_; intro v4 w4 hF4 hg4 hn4; have hb4 := HB3.out.grown hg4 hs3 (fun q hq => (hF3.1.lt q hq).1); have HB4 := hid hb4; have HF4 := hid hF4; clear hF4 hg4 hn4 hb4))
          go_ret
          exact ⟨_, rfl, by rw [HPP.out]; exact HF4.out.r, HB4.out, fun B hB _ => atB_of HF4.out hB⟩
    · have hkl : k = l.length := by omega
      subst hkl
      have HPP : Hid (putL l x = (l ++ [x]) ++ []) := by
        show _ = _
        rw [HP.out, List.drop_eq_nil_of_le (Nat.le_refl _), List.take_length, putL_nil]; simp
      have hF0 := ints_empty w w.heap.size (Nat.le_refl _)
      have hB0 : Below w.heap.size w (w.alloc (.cells #[] 3)) := (Below.refl _ _).alloc (Nat.le_refl _) _
      have hR1 := rints_take (HR.out.keep hB0) (Nat.le_refl l.length)
      rw [List.take_length] at hR1
      have hll : ([] : List Int).length + l.length ≤ 1099511627776 := by simp; omega
      have HB0 := hid hB0
      have f5 : (l.length : Int) ≤ (cap : Int) := by omega
      clear hlk hsp hB0 hc hlt
      by_cases hcap : cap = l.length
      all_goals
        try subst hcap
        go_wp2_with (at_builtin; first
          | (refine wpList_append_ints rfl (.tmp 34) (.tmp 37) rfl w.heap.size _ _ _ [] l rfl rfl hF0 hR1 hll (by simp) ?_; intro v2 w2 hF2 hg2 hn2; have hb2 := HB0.out.grown hg2 (by simp) (fun q hq => by cases hq; exact Nat.le_refl _); have HB2 := hid hb2; obtain ⟨av2, nv2, cv2, rfl⟩ := hF2.form3; have hpre := push_pre hF2 x; have hp1 := hpre.1; have hp2 := hpre.2.1; have hs2 : w.heap.size ≤ w2.heap.size := hb2.size; clear hF2 hg2 hn2 hb2 hpre)
          | (refine wpList_append_ints rfl (.tmp 39) (.tmp 41) rfl w.heap.size _ _ _ ([] ++ l) [x] rfl rfl hp1 hp2 (by simp; omega) (by simp; omega) ?_; intro v3 w3 hF3 hg3 hn3; have hb3 := (HB2.out.trans (((Below.refl _ _).alloc (Nat.le_refl _) _ : Below w2.heap.size w2 (w2.alloc (.cells #[.int .i64 x] 3))).mono hs2)).grown hg3 (by simp; omega) (fun q hq => (hp1.1.lt q hq).1); have HB3 := hid hb3; have hs3 : w.heap.size ≤ w3.heap.size := hb3.size; obtain ⟨av3, nv3, cv3, rfl⟩ := hF3.form3; clear hg3 hn3 hb3)
          | (refine wpList_append_ints rfl (.tmp 43) (.tmp 46) rfl w.heap.size _ _ _ (([] ++ l) ++ [x]) [] rfl rfl hF3 (by (try simp only [Nat.sub_self]); exact rints_none (by unfold maxLen; omega)) (by simp; omega) hs3 ?_; intro v4 w4 hF4 hg4 hn4; have hb4 := HB3.out.grown hg4 hs3 (fun q hq => (hF3.1.lt q hq).1); have HB4 := hid hb4; have HF4 := hid hF4; clear hF4 hg4 hn4 hb4))
        go_ret
        exact ⟨_, rfl, by rw [HPP.out]; exact HF4.out.r, HB4.out, fun B hB _ => atB_of HF4.out hB⟩

end Go.Proofs.Ytifdhapaonideaa
