/- What the firings need of elsewhere (printed by wip/firegen4.py). -/
import Derived.Test.YtlehhfmbdcmpoaaFireI
namespace Go.Proofs.Ytlehhfmbdcmpoaa
open Go.RowKit
open Go.Lib (hid)

theorem lst_sum (n : Nat) (f : Nat → Int) : (lst n f).sum = sumN n f := by
  induction n with
  | zero => rfl
  | succ k ih => rw [lst_succ]; simp [ih, sumN]
def RetZB (w : World) (p : Int × Bool) (e : Ending) (w' : World) : Prop := e = .returned (.tuple #[.int .i64 p.1, .bool p.2]) ∧ Below w.heap.size w w'
theorem sum_getD {d : List Int} {m : Nat} (h : d.length = m) : sumN m (fun i => d.getD i 0) = d.sum := by rw [← lst_sum, ← lst_of h]
set_option maxHeartbeats 1000000 in
theorem isVertex_c (n : Nat) (x : Int) (p : Value) (L : List Lnk) (w : World) (h : RG w p n L) (hn1 : 1 ≤ n) (hn : n ≤ 8) :
    Calls Try.prog 115 #[p, .int .i64 x] w fun e w' => e = .returned (.bool (inB x 0 ((n : Int) - 1))) ∧ w = w' := by
  obtain ⟨g, bt, vt, rfl, c0, _, _, _, _, _⟩ := h
  have f1 : IntKind.i64.wrap ((n : Int) - 1) = (n : Int) - 1 := IntWalk.i64_in _ (by omega)
  go_enter Try.func115, Try.ntmps115
  go_wp2_with (go_at_call 157; refine (within_c _ _ _ _).mono ?_; rintro e w' ⟨rfl, rfl⟩)
  go_ret
  exact ⟨rfl, rfl⟩

/-- a set as marks -/
def mrkF (l : List Int) (u : Nat) : Int := if hasB l u then 1 else 0
theorem mrkF_take {l : List Int} {i : Nat} (h : i < l.length) {a : Nat} (ha : l.getD i 0 = a) (n : Nat) : lst n (upd (mrkF (l.take i)) a 1) = lst n (mrkF (l.take (i + 1))) := lst_congr fun u _ => by
  have ht : l.take (i + 1) = l.take i ++ [l.getD i 0] := by rw [List.take_add_one]; simp [List.getD, h]
  rw [ht, ha]
  unfold upd mrkF
  by_cases e : u = a
  · rw [if_pos e, if_pos]
    rw [hasB_mem]; simp [e]
  · rw [if_neg e]
    have : hasB (l.take i ++ [(a : Int)]) u = hasB (l.take i) u := by
      rw [Bool.eq_iff_iff, hasB_mem, hasB_mem, List.mem_append, List.mem_singleton]
      constructor
      · rintro (h | h)
        · exact h
        · omega
      · exact .inl
    rw [this]

set_option maxRecDepth 100000 in
set_option maxHeartbeats 2000000 in
theorem scriptOf_c (n : Nat) (p v : Value) (L : List Lnk) (l : List Int) (w : World) (hp : RG w p n L) (hn : n ≤ 1000) (h : RInts w v l) (hl : ∀ x ∈ l, 0 ≤ x ∧ x < (n : Int)) :
    Calls Try.prog 97 #[p, v] w (RetInts w (lst n (mrkF l))) := by
  obtain ⟨g, bt, vt, rfl, c0, _, _, _, _, _⟩ := hp
  have HR := hid h
  obtain ⟨a, cap, rfl, h1, h2, hc⟩ := h
  clear hc
  unfold maxLen at h2
  have HL := hid hl
  have hmk := run_make_row' (P := Try.prog) 23 3 (.int .i64 0) 8 Try.underlying23 Try.infoInt rfl .i64 .i64 n (by omega) (by omega)
  have HF0 := hid (fi_made w n (by omega))
  have HB0 : Hid (Below w.heap.size w (w.alloc (.cells (madeCells #[.int .i64 0] n) 3))) := (Below.refl _ _).alloc (Nat.le_refl _) _
  clear hl
  go_enter Try.func97, Try.ntmps97
  go_wp2
  clear hmk c0
  go_loopg [15] l.length (fun gk vv wr => ∃ i : Nat, i ≤ l.length ∧ gk = l.length - i ∧ vv = .int .i64 i ∧ FInts wr w.heap.size (w.heap.size + 1) (.slice (some ⟨w.heap.size, 0, none⟩) n n) (lst n (mrkF (l.take i))) ∧ Below w.heap.size w wr ∧ w.heap.size + 1 ≤ wr.heap.size)
  case atStart => exact ⟨0, Nat.zero_le _, rfl, rfl, HF0.out, HB0.out, by simp⟩
  case round =>
    obtain ⟨i, hi, rfl, rfl, hF, hb, hsz⟩ := hrel
    by_cases hlt : i < l.length
    · have hm := HR.out.keep hb
      obtain ⟨a2, cap2, he, _, _, hc⟩ := hm
      simp only [Value.slice.injEq, true_and] at he
      obtain ⟨rfl, rfl⟩ := he
      obtain ⟨g, o, x, rfl, hcell, HD, HX⟩ := ints_at hc hlt
      have hmem : x ∈ l := by rw [← HX.out]; simp [List.getD, List.getElem?_eq_getElem hlt]
      have hx := HL.out x hmem
      obtain ⟨y, rfl⟩ : ∃ y : Nat, x = y := ⟨x.toNat, by omega⟩
      obtain ⟨hc0, _, hset⟩ := fi_open hF
      have hyn : y < n := by omega
      have b2 := (hc0 y hyn).2
      have b1 := (hc0 y hyn).1
      have hst := hset y 1 hyn
      rw [mrkF_take hlt HX.out] at hst
      have HO := hid (And.intro hst.1 (And.intro (hb.trans (hst.2.below (Nat.le_refl _) hb.size)) (Nat.le_trans hsz hst.2.size)))
      have hiz : (i : Int) < (l.length : Int) := by omega
      have hyz : (y : Int) < (n : Int) := by omega
      clear hF hb hc hc0 hset hst hmem hx HD HX
      go_wp2
      go_roundg (l.length - (i + 1))
      case rel => exact ⟨i + 1, by omega, rfl, by go_num, HO.out⟩
      case measure => omega
    · obtain rfl : i = l.length := by omega
      rw [List.take_length] at hF
      have HF := hid (And.intro hF (And.intro hb hsz))
      clear hF hb
      go_wp2
      go_ret
      exact ⟨_, rfl, HF.out.1.mono (Nat.le_refl _) HF.out.2.2, HF.out.2.1⟩

end Go.Proofs.Ytlehhfmbdcmpoaa
