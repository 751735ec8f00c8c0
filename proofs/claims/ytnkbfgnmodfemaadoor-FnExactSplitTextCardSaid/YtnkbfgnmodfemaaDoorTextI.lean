/- The text of a split: the program's. -/
import Derived.Test.YtnkbfgnmodfemaaDoorText
import Derived.Test.YtnkbfgnmodfemaaDoorOther
namespace Go.Proofs.YtnkbfgnmodfemaaDoor
open Go.RowKit
open Go.Lib (hid)

theorem Tryd.infoStr : (Tryd.prog.info? 9).map (fun i => (i.zero, i.size, i.bytes)) = some (some (.string ⟨#[]⟩), 1, 16) := by kernel_rfl

/-- v is a slice of strings, whole in a block of its own -/
def FStrs (w : World) (lo hi : Nat) (v : Value) (xs : List (List UInt8)) : Prop :=
  w.ownsRow lo 9 1 v xs.length (xs.map bstr) ∧ ∀ g, v.ownBlock = some g → g < hi
theorem FStrs.keep {w w' : World} {lo hi : Nat} {v : Value} {xs : List (List UInt8)} (h : FStrs w lo hi v xs) (hb : Below w.heap.size w w') : FStrs w' lo hi v xs :=
  ⟨own_same h.1 (fun g hg => (Same.of_below hb) g (h.1.lt g hg).1 (h.2 g hg) (h.1.lt g hg).2), h.2⟩
theorem FStrs.mono {w : World} {lo hi lo' hi' : Nat} {v : Value} {xs : List (List UInt8)} (h : FStrs w lo hi v xs) (h1 : lo' ≤ lo) (h2 : hi ≤ hi') : FStrs w lo' hi' v xs :=
  ⟨own_mono h.1 h1, fun g hg => Nat.lt_of_lt_of_le (h.2 g hg) h2⟩
theorem strs_empty (w : World) (lo : Nat) (h : lo ≤ w.heap.size) : FStrs (w.alloc (.cells #[] 9)) lo (w.heap.size + 1) (.slice (some ⟨w.heap.size, 0, none⟩) 0 0) [] :=
  ⟨World.ownsRow_made w #[] 0 h (by unfold maxLen; omega) rfl, fun g hg => by simp [Value.ownBlock] at hg; omega⟩
theorem FStrs.form {w : World} {lo hi : Nat} {v : Value} {xs : List (List UInt8)} (h : FStrs w lo hi v xs) : ∃ a cap, v = .slice a xs.length cap := by
  obtain ⟨a, cap, rfl, _⟩ := own_form h.1; exact ⟨a, cap, rfl⟩

theorem run_append_str {w : World} {lo hi : Nat} {v : Value} {xs : List (List UInt8)} {y : List UInt8} (ty : TypeId) {ad : Addr} {c : Nat} (h : FStrs w lo hi v xs) (hc : w.cell? ad = some (bstr y)) (hlen : xs.length + 1 ≤ 1048576) (hlo : lo ≤ w.heap.size) :
    ∃ v' w', (Builtin.append_ #[36, 36] ty #[v, .slice (some ad) 1 c]).run Tryd.prog w = .ok v' w' ∧ FStrs w' lo w'.heap.size v' (xs ++ [y]) ∧ w.grownBy w' v.ownBlock := by
  obtain ⟨i0, hi0, hz0, hz1, hz2⟩ := info_parts Tryd.infoStr
  obtain ⟨v', w', hr, hown, hg, hn⟩ := run_append_own (P := Tryd.prog) w lo 36 ty 9 i0 (.string ⟨#[]⟩) 1 16 Tryd.underlying36 hi0 hz0 hz1 hz2 rfl (by decide) v xs.length (xs.map bstr) h.1
    ad 1 c [bstr y] (by simp) (fun j x hx => by
      cases j with
      | zero =>
        simp at hx; subst hx
        rw [show ad.add 0 = ad by unfold Addr.add; split <;> simp_all]
        exact hc
      | succ j => simp at hx) (fun x hx => by simp at hx; subst hx; rfl) (by unfold maxLen; omega) (by omega) hlo
  refine ⟨v', w', hr, ⟨?_, fun g hg => (hown.lt g hg).2⟩, hg⟩
  rw [List.length_append, List.map_append]; exact hown

theorem wpList_append_str {w : World} {ops : Array Oper} {rest : List Oper} {o : Oper} {a : Act} {Q : Exit → Act → World → Prop} (hgd : o.guard = none) (s x : Operand)
    (ho : o.op = .call { callee := .builtin .append, args := #[s, x], argTypes := #[36, 36] }) (lo hi : Nat) (v : Value) (ad : Addr) (c : Nat) (xs : List (List UInt8)) (y : List UInt8) (hs : a.eval s = v) (hx : a.eval x = .slice (some ad) 1 c)
    (hF : FStrs w lo hi v xs) (hc : w.cell? ad = some (bstr y)) (hlen : xs.length + 1 ≤ 1048576) (hlo : lo ≤ w.heap.size)
    (h : ∀ v' w', FStrs w' lo w'.heap.size v' (xs ++ [y]) → w.grownBy w' v.ownBlock → wpList Tryd.prog ops Q rest (a.put o.dst v') w') : wpList Tryd.prog ops Q (o :: rest) a w := by
  refine wpList_plain hgd fun K hK => ?_
  obtain ⟨v', w', hr, h2, h3⟩ := run_append_str (c := c) o.type hF hc hlen hlo
  unfold Oper.wp execOp
  simp only [ho, resolve, invoke, builtin, Sem.run_bind, Sem.run_pure, Result.andThen_ok, List.map_toArray, List.map_cons, List.map_nil, hs, hx, hr]
  exact hK _ _ (h v' w' h2 h3)

/-- the letters of a list of numbers -/
def dW (l : List Int) : List (List UInt8) := l.map fun x => [dig x.toNat]
theorem join_dW : ∀ (l : List Int), Lib.join (dW l) [44] = (cT (l.map Int.toNat)).drop 1
  | [] => rfl
  | x :: xs => by
    have hj : Lib.joinTail [44] (dW xs) = cT (xs.map Int.toNat) := by
      unfold Lib.joinTail dW cT
      rw [List.map_map, List.flatMap_map, ← List.flatMap_def]
      rfl
    show Lib.join ([dig x.toNat] :: dW xs) [44] = _
    rw [Lib.join_cons, hj]
    simp [cT]
theorem dW_len (l : List Int) : (Lib.join (dW l) [44]).length ≤ 2 * l.length := by
  rw [join_dW, List.length_drop, cT_len, List.length_map]
  omega
/-- one string appended: ahead of it, and behind it -/
theorem push_str {w wr : World} {o : Value} {xs : List (List UInt8)} (y : List UInt8) (hF : FStrs wr w.heap.size wr.heap.size o xs) (hb : Below w.heap.size w wr) :
    FStrs (wr.alloc (.cells #[bstr y] 9)) w.heap.size wr.heap.size o xs ∧ w.heap.size ≤ (wr.alloc (.cells #[bstr y] 9)).heap.size ∧ (wr.alloc (.cells #[bstr y] 9)).cell? ⟨wr.heap.size, 0, none⟩ = some (bstr y) ∧
      ∀ w', (wr.alloc (.cells #[bstr y] 9)).grownBy w' o.ownBlock → Below w.heap.size w w' := by
  have ha : Below wr.heap.size wr (wr.alloc (.cells #[bstr y] 9)) := (Below.refl _ _).alloc (Nat.le_refl _) _
  have hs := hb.size
  refine ⟨hF.keep ha, by simp; omega, cell_new _ _ _, fun w' hg => (hb.trans (ha.mono hs)).grown hg (by simp; omega) (fun k hk => (hF.1.lt k hk).1)⟩

set_option maxRecDepth 100000 in
set_option maxHeartbeats 1000000 in
theorem pointsText_c (v : Value) (l : List Int) (w : World) (h : RInts w v l) (hl : l.length ≤ 1000) (hd : ∀ x ∈ l, 0 ≤ x ∧ x < 10) (hne : l ≠ []) :
    Calls Tryd.prog 12 #[v] w fun e w' => e = .returned (bstr ((cT (l.map Int.toNat)).drop 1)) ∧ Below w.heap.size w w' := by
  have HR := hid h
  have HD := hid hd
  have HNE := hid hne
  obtain ⟨a, cap, rfl, h1, h2, hc⟩ := h
  clear hc hd hne
  unfold maxLen at h2
  go_enter Tryd.func12, Tryd.ntmps12
  go_wp2
  go_loopg [3, 9] l.length (fun gk o iv wr => ∃ k : Nat, k ≤ l.length ∧ gk = l.length - k ∧ iv = .int .i64 k ∧ FStrs wr w.heap.size wr.heap.size o (dW (l.take k)) ∧ Below w.heap.size w wr)
  case atStart => exact ⟨0, Nat.zero_le _, rfl, rfl, (strs_empty w _ (Nat.le_refl _)).mono (Nat.le_refl _) (by simp), (Below.refl _ _).alloc (Nat.le_refl _) _⟩
  case round =>
    obtain ⟨k, hk, rfl, rfl, hF, hb⟩ := hrel
    by_cases hlt : k < l.length
    · have hltz : (k : Int) < (l.length : Int) := by omega
      obtain ⟨a', cap', hv, _, _, hc⟩ := HR.out.keep hb
      simp only [Value.slice.injEq, true_and] at hv
      obtain ⟨rfl, rfl⟩ := hv
      obtain ⟨g, o', x, rfl, e1, HX, HG⟩ := ints_at hc hlt
      have hx := HD.out x (by have := HG.out; rw [← this, List.getD_eq_getElem?_getD, List.getElem?_eq_getElem hlt]; exact List.getElem_mem hlt)
      obtain ⟨d, rfl⟩ : ∃ d : Nat, x = d := ⟨x.toNat, by omega⟩
      have HT : Hid (dW (l.take (k + 1)) = dW (l.take k) ++ [[dig d]]) := by
        show _ = _
        rw [show l.take (k + 1) = l.take k ++ [(d : Int)] by rw [List.take_succ_eq_append_getElem hlt]; congr 2; have := HG.out; rw [List.getD_eq_getElem?_getD, List.getElem?_eq_getElem hlt] at this; exact this]
        simp [dW]
      have hdl : (dW (l.take k)).length + 1 ≤ 1048576 := by simp [dW]; omega
      have hd10 : d < 10 := by omega
      obtain ⟨p1, p2, p3, p4⟩ := push_str [dig d] hF hb
      obtain ⟨au, cu, rfl⟩ := hF.form
      have HF := hid hF
      have HB := hid hb
      have P1 := hid p1
      have P2 := hid p2
      have P3 := hid p3
      have P4 := hid p4
      have HL := hid hdl
      clear hF hb hc p1 p2 p3 p4 hdl
      go_wp2_with fail
      refine (Tryd.strconv_Itoa_small d (by omega) _).mono ?_
      rintro e w' ⟨rfl, rfl⟩
      rw [show Lib.decDigits d = [dig d] from Lib.decDigits_one hd10]
      go_wp2_with (at_builtin; refine wpList_append_str rfl _ _ rfl _ _ _ _ _ _ [dig d] rfl rfl P1.out P3.out HL.out P2.out ?_; intro v' w' hF' hg)
      go_roundg (l.length - (k + 1))
      case rel => exact ⟨k + 1, by omega, rfl, by go_num, by rw [HT.out]; exact hF', P4.out _ hg⟩
      case measure => omega
    · obtain rfl : k = l.length := by omega
      rw [List.take_length] at hF
      have hpos : 0 < l.length := List.length_pos_iff.2 HNE.out
      have hdl : (dW l).length = l.length := by simp [dW]
      obtain ⟨ad, cp, rfl, o1, o2, o3, o4, o5⟩ := own_form hF.1
      have HB := hid hb
      rw [hdl] at o1 o5
      obtain ⟨g, rfl, o6, o7, _⟩ := o5 0 hpos
      have hj := Tryd.strings_Join g 0 cp ((dW l).map fun x => (⟨x.toArray⟩ : ByteArray)) ⟨#[44]⟩ wr (fun j x hx => by
        have hj : j < l.length := by
          by_cases hj : j < l.length
          · exact hj
          · rw [List.getElem?_eq_none (by simp [dW]; omega)] at hx; cases hx
        obtain ⟨g', hg', _, _, hc', _⟩ := o5 j hj
        cases hg'
        rw [Nat.zero_add, hc', List.getElem?_map]
        rw [List.getElem?_map] at hx
        cases hq : (dW l)[j]? with
        | none => rw [hq] at hx; cases hx
        | some q => rw [hq] at hx; simp at hx; subst hx; rfl) o7 (by simp [dW]; omega) (by simp [dW]; omega) (by
          have := dW_len l
          simp [Function.comp_def]
          omega)
      have HJ := hid hj
      clear hj hF hb o1 o2 o3 o4 o5 o6
      rw [hdl]
      go_wp2_with fail
      have hj2 := HJ.out
      rw [List.length_map, hdl] at hj2
      refine hj2.mono ?_
      rintro e w2 ⟨rfl, hb2⟩
      have HB2 := hid (HB.out.trans (hb2.mono HB.out.size))
      clear hb2 hj2
      go_wp2
      go_ret
      refine ⟨congrArg Ending.returned ?_, HB2.out⟩
      rw [bstr, ← join_dW]
      simp [Function.comp_def]

end Go.Proofs.YtnkbfgnmodfemaaDoor
