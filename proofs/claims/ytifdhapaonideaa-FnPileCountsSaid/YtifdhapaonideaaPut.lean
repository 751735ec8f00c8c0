/- l1Put: a number is put into an increasing list. -/
import Derived.Test.YtifdhapaonideaaChMem
import Derived.Test.YtifdhapaonideaaAppend
namespace Go.Proofs.Ytifdhapaonideaa
open Go.RowKit
open Go.Lib (hid)

def putL : List Int → Int → List Int
  | [], x => [x]
  | y :: ys, x => if y < x then y :: putL ys x else if y = x then y :: ys else x :: y :: ys
theorem putL_nil (x : Int) : putL [] x = [x] := rfl
theorem putL_less {y x : Int} (ys : List Int) (h : y < x) : putL (y :: ys) x = y :: putL ys x := by rw [putL, if_pos h]
theorem putL_same {y x : Int} (ys : List Int) (h : y = x) : putL (y :: ys) x = y :: ys := by rw [putL, if_neg (by omega), if_pos h]
theorem putL_more {y x : Int} (ys : List Int) (h : x < y) : putL (y :: ys) x = x :: y :: ys := by rw [putL, if_neg (by omega), if_neg (by omega)]
theorem putL_len (l : List Int) (x : Int) : (putL l x).length ≤ l.length + 1 := by
  induction l with
  | nil => simp [putL]
  | cons y ys ih => rw [putL]; split <;> (try split) <;> simp <;> omega

/-- the marked ones below n, rising -/
def setL (b : Nat → Bool) : Nat → List Int
  | 0 => []
  | n + 1 => if b n then setL b n ++ [(n : Int)] else setL b n
theorem setL_succ_yes {b : Nat → Bool} {n : Nat} (h : b n = true) : setL b (n + 1) = setL b n ++ [(n : Int)] := by rw [setL, if_pos h]
theorem setL_succ_no {b : Nat → Bool} {n : Nat} (h : b n = false) : setL b (n + 1) = setL b n := by rw [setL, h]; rfl
theorem mem_setL {b : Nat → Bool} {n : Nat} {x : Int} : x ∈ setL b n ↔ ∃ v, v < n ∧ b v = true ∧ x = v := by
  induction n with
  | zero => simp [setL]
  | succ n ih =>
    cases h : b n with
    | true =>
      rw [setL_succ_yes h, List.mem_append, ih]
      constructor
      · rintro (⟨v, h1, h2, h3⟩ | h1)
        · exact ⟨v, by omega, h2, h3⟩
        · exact ⟨n, by omega, h, by simpa using h1⟩
      · rintro ⟨v, h1, h2, h3⟩
        by_cases e : v = n
        · subst e; right; simp [h3]
        · exact .inl ⟨v, by omega, h2, h3⟩
    | false =>
      rw [setL_succ_no h, ih]
      constructor
      · rintro ⟨v, h1, h2, h3⟩; exact ⟨v, by omega, h2, h3⟩
      · rintro ⟨v, h1, h2, h3⟩
        by_cases e : v = n
        · subst e; rw [h] at h2; cases h2
        · exact ⟨v, by omega, h2, h3⟩
theorem hasB_mem {l : List Int} {x : Int} : hasB l x = true ↔ x ∈ l := by
  unfold hasB
  rw [List.any_eq_true]
  constructor
  · rintro ⟨y, h1, h2⟩; rw [beq_iff_eq] at h2; rw [← h2]; exact h1
  · intro h; exact ⟨x, h, by simp⟩
theorem hasB_setL {b : Nat → Bool} {n v : Nat} (h : v < n) : hasB (setL b n) v = b v := by
  rw [Bool.eq_iff_iff, hasB_mem, mem_setL]
  constructor
  · rintro ⟨u, _, h2, h3⟩
    have : v = u := by omega
    rw [this]; exact h2
  · intro h2; exact ⟨v, h, h2, rfl⟩
theorem setL_len (b : Nat → Bool) (n : Nat) : (setL b n).length + Gr.unm b n = n := by
  induction n with
  | zero => rfl
  | succ n ih =>
    rw [Gr.unm_succ]
    cases h : b n with
    | true => rw [setL_succ_yes h]; simp; omega
    | false => rw [setL_succ_no h]; simp; omega
theorem setL_lt (b : Nat → Bool) (n : Nat) : ∀ x ∈ setL b n, x < n := fun x hx => by obtain ⟨v, h1, _, rfl⟩ := mem_setL.1 hx; omega
theorem setL_congr {b c : Nat → Bool} {n : Nat} (h : ∀ v, v < n → b v = c v) : setL b n = setL c n := by
  induction n with
  | zero => rfl
  | succ n ih => rw [setL, setL, ih (fun v hv => h v (by omega)), h n (by omega)]
theorem putL_all {l : List Int} {x : Int} (h : ∀ y ∈ l, y < x) : putL l x = l ++ [x] := by
  induction l with
  | nil => rfl
  | cons y ys ih => rw [putL_less ys (h y (by simp)), ih (fun z hz => h z (by simp [hz]))]; rfl
theorem putL_snoc_less {l : List Int} {z x : Int} (h : ∀ y ∈ l, y < z) (hx : x < z) : putL (l ++ [z]) x = putL l x ++ [z] := by
  induction l with
  | nil => rw [List.nil_append, putL_more [] hx]; rfl
  | cons y ys ih =>
    have hy := h y (by simp)
    rw [List.cons_append]
    by_cases h1 : y < x
    · rw [putL_less _ h1, putL_less _ h1, ih (fun w hw => h w (by simp [hw]))]; rfl
    · by_cases h2 : y = x
      · rw [putL_same _ h2, putL_same _ h2]; rfl
      · rw [putL_more _ (by omega), putL_more _ (by omega)]; rfl
theorem putL_snoc_same {l : List Int} {z : Int} (h : ∀ y ∈ l, y < z) : putL (l ++ [z]) z = l ++ [z] := by
  induction l with
  | nil => rw [List.nil_append, putL_same [] rfl]
  | cons y ys ih => rw [List.cons_append, putL_less _ (h y (by simp)), ih (fun w hw => h w (by simp [hw]))]
theorem putL_setL (b : Nat → Bool) {v : Nat} : ∀ n, v < n → putL (setL b n) v = setL (Gr.mark b v) n
  | 0, h => by omega
  | n + 1, h => by
    by_cases e : v = n
    · subst e
      have h2 := setL_congr (b := Gr.mark b v) (c := b) (n := v) (fun u hu => Gr.mark_other b (by omega))
      rw [setL_succ_yes (Gr.mark_self b v), h2]
      cases hb : b v with
      | true => rw [setL_succ_yes hb, putL_snoc_same (setL_lt b v)]
      | false => rw [setL_succ_no hb, putL_all (setL_lt b v)]
    · have ih := putL_setL b (v := v) n (by omega)
      cases hb : b n with
      | true => rw [setL_succ_yes hb, setL_succ_yes (by rw [Gr.mark_other b (fun h => e h.symm)]; exact hb), putL_snoc_less (setL_lt b n) (by omega), ih]
      | false => rw [setL_succ_no hb, setL_succ_no (by rw [Gr.mark_other b (fun h => e h.symm)]; exact hb), ih]

/-- a list that is read only, in whatever memory -/
def RetR (w : World) (xs : List Int) (e : Ending) (w' : World) : Prop := ∃ v, e = .returned v ∧ RInts w' v xs ∧ Below w.heap.size w w'

set_option maxRecDepth 100000 in
set_option maxHeartbeats 1000000 in
theorem l1Put_c (v : Value) (l : List Int) (x : Int) (w : World) (h : RInts w v l) (hl : l.length ≤ 1048576) :
    Calls Try.prog 103 #[v, .int .i64 x] w (RetR w (putL l x)) := by
  have hR := h
  obtain ⟨a, cap, rfl, h1, h2, hc⟩ := h
  unfold maxLen at h2
  have HR := hid hR; clear hR
  go_enter Try.func103, Try.ntmps103
  go_wp2
  go_loop [5] (fun i => ∃ k : Nat, k ≤ l.length ∧ i = .int .i64 k ∧ putL l x = l.take k ++ putL (l.drop k) x) (fun i => l.length - (intOf i).toNat)
  case atStart => exact ⟨0, Nat.zero_le _, rfl, rfl⟩
  case round =>
    obtain ⟨k, hk, rfl, hr⟩ := hrel
    have HP := hid hr; clear hr
    have hlk : (l.take k).length = k := by rw [List.length_take]; omega
    have hsp := List.take_append_drop k l
    by_cases hlt : k < l.length
    · obtain ⟨g, o, y, rfl, hk, HD, HX⟩ := ints_at hc hlt
      have hkz : (k : Int) < (l.length : Int) := by omega
      have hts : l.take (k + 1) = l.take k ++ [y] := by
        rw [List.take_succ_eq_append_getElem hlt]; have := HX.out; simp [List.getD, hlt] at this; rw [this]
      have HTS := hid hts; clear hts
      have HSP := hid hsp; clear hsp
      clear hc
      by_cases hyx : y < x
      · clear hlk
        go_wp2
        go_round
        case rel => exact ⟨k + 1, by omega, by go_num, by rw [HP.out, HD.out, putL_less _ hyx, HTS.out, List.append_assoc]; rfl⟩
        case measure => simp [intOf]; omega
      · by_cases hye : y = x
        · have t1 : (y == x) = true := by rw [beq_iff_eq]; exact hye
          have HYE := hid hye; clear hye
          clear hlk
          go_wp2
          go_ret
          exact ⟨_, rfl, by rw [HP.out, HD.out, putL_same _ HYE.out, ← HD.out, HSP.out]; exact HR.out, Below.refl _ _⟩
        · have t1 : (y == x) = false := by rw [beq_eq_false_iff_ne]; exact hye
          have HPP : Hid (putL l x = (l.take k ++ [x]) ++ l.drop k) := by
            show _ = _
            rw [HP.out, HD.out, putL_more _ (by omega), List.append_assoc]; rfl
          have hF0 := ints_empty w w.heap.size (Nat.le_refl _)
          have hB0 : Below w.heap.size w (w.alloc (.cells #[] 3)) := (Below.refl _ _).alloc (Nat.le_refl _) _
          have hR1 := rints_take (HR.out.keep hB0) (show k ≤ l.length by omega)
          have hR2 := rints_drop HR.out (show k ≤ l.length by omega)
          have hll : ([] : List Int).length + (l.take k).length ≤ 1099511627776 := by rw [hlk]; simp; omega
          have HB0 := hid hB0
          have f0 : (k : Int) ≤ (cap : Int) := by omega
          have f5 : (l.length : Int) ≤ (cap : Int) := by omega
          clear hye hlk hB0
          go_wp2_with (at_builtin; first
            | (refine wpList_append_ints rfl (.tmp 34) (.tmp 37) rfl w.heap.size _ _ _ [] (l.take k) rfl rfl hF0 hR1 hll (by simp) ?_; intro v2 w2 hF2 hg2 hn2; have hb2 := HB0.out.grown hg2 (by simp) (fun q hq => by cases hq; exact Nat.le_refl _); have HB2 := hid hb2; obtain ⟨av2, nv2, cv2, rfl⟩ := hF2.form3; have hpre := push_pre hF2 x; have hp1 := hpre.1; have hp2 := hpre.2.1; have hs2 : w.heap.size ≤ w2.heap.size := hb2.size; clear hF2 hg2 hn2 hb2 hpre)
            | (refine wpList_append_ints rfl (.tmp 39) (.tmp 41) rfl w.heap.size _ _ _ ([] ++ l.take k) [x] rfl rfl hp1 hp2 (by simp; omega) (by simp; omega) ?_; intro v3 w3 hF3 hg3 hn3; have hb3 := (HB2.out.trans (((Below.refl _ _).alloc (Nat.le_refl _) _ : Below w2.heap.size w2 (w2.alloc (.cells #[.int .i64 x] 3))).mono hs2)).grown hg3 (by simp; omega) (fun q hq => (hp1.1.lt q hq).1); have HB3 := hid hb3; have hs3 : w.heap.size ≤ w3.heap.size := hb3.size; obtain ⟨av3, nv3, cv3, rfl⟩ := hF3.form3; have hR3 := hR2.keep hb3; clear hg3 hn3 hb3)
            | (refine wpList_append_ints rfl (.tmp 43) (.tmp 46) rfl w.heap.size _ _ _ (([] ++ l.take k) ++ [x]) (l.drop k) rfl rfl hF3 hR3 (by simp; omega) hs3 ?_; intro v4 w4 hF4 hg4 hn4; have hb4 := HB3.out.grown hg4 hs3 (fun q hq => (hF3.1.lt q hq).1); have HB4 := hid hb4; have HF4 := hid hF4; clear hF4 hg4 hn4 hb4))
          go_ret
          exact ⟨_, rfl, by rw [HPP.out]; exact HF4.out.r, HB4.out⟩
    · have hkl : k = l.length := by omega
      subst hkl
      have HPP : Hid (putL l x = (l ++ [x]) ++ []) := by
        show _ = _
        rw [HP.out, List.drop_eq_nil_of_le (Nat.le_refl _), List.take_length, putL_nil]; simp
      have hF0 := ints_empty w w.heap.size (Nat.le_refl _)
      have hB0 : Below w.heap.size w (w.alloc (.cells #[] 3)) := (Below.refl _ _).alloc (Nat.le_refl _) _
      have hR1 := rints_take (HR.out.keep hB0) (Nat.le_refl l.length)
      rw [List.take_length] at hR1
      have hll : ([] : List Int).length + l.length ≤ 1099511627776 := by simp; omega
      have HB0 := hid hB0
      have f5 : (l.length : Int) ≤ (cap : Int) := by omega
      clear hlk hsp hB0 hc hlt
      by_cases hcap : cap = l.length
      all_goals
        try subst hcap
        go_wp2_with (at_builtin; first
          | (refine wpList_append_ints rfl (.tmp 34) (.tmp 37) rfl w.heap.size _ _ _ [] l rfl rfl hF0 hR1 hll (by simp) ?_; intro v2 w2 hF2 hg2 hn2; have hb2 := HB0.out.grown hg2 (by simp) (fun q hq => by cases hq; exact Nat.le_refl _); have HB2 := hid hb2; obtain ⟨av2, nv2, cv2, rfl⟩ := hF2.form3; have hpre := push_pre hF2 x; have hp1 := hpre.1; have hp2 := hpre.2.1; have hs2 : w.heap.size ≤ w2.heap.size := hb2.size; clear hF2 hg2 hn2 hb2 hpre)
          | (refine wpList_append_ints rfl (.tmp 39) (.tmp 41) rfl w.heap.size _ _ _ ([] ++ l) [x] rfl rfl hp1 hp2 (by simp; omega) (by simp; omega) ?_; intro v3 w3 hF3 hg3 hn3; have hb3 := (HB2.out.trans (((Below.refl _ _).alloc (Nat.le_refl _) _ : Below w2.heap.size w2 (w2.alloc (.cells #[.int .i64 x] 3))).mono hs2)).grown hg3 (by simp; omega) (fun q hq => (hp1.1.lt q hq).1); have HB3 := hid hb3; have hs3 : w.heap.size ≤ w3.heap.size := hb3.size; obtain ⟨av3, nv3, cv3, rfl⟩ := hF3.form3; clear hg3 hn3 hb3)
          | (refine wpList_append_ints rfl (.tmp 43) (.tmp 46) rfl w.heap.size _ _ _ (([] ++ l) ++ [x]) [] rfl rfl hF3 (by (try simp only [Nat.sub_self]); exact rints_none (by unfold maxLen; omega)) (by simp; omega) hs3 ?_; intro v4 w4 hF4 hg4 hn4; have hb4 := HB3.out.grown hg4 hs3 (fun q hq => (hF3.1.lt q hq).1); have HB4 := hid hb4; have HF4 := hid hF4; clear hF4 hg4 hn4 hb4))
        go_ret
        exact ⟨_, rfl, by rw [HPP.out]; exact HF4.out.r, HB4.out⟩

end Go.Proofs.Ytifdhapaonideaa
