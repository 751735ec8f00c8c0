/- The splits of a tree metric, by the program: all splits. -/
import Derived.Test.YtnkbfgnmodfemaaGreatDoorSplits2
namespace Go.Proofs.YtnkbfgnmodfemaaGreatDoor
open Go.RowKit
open Go.Lib (hid)

theorem keepD_trans {D D' : Nat → Prop} {a b c : World} (h : KeepOn (fun x => ¬ D x) a b) (hi : ∀ x, D' x → D x ∨ a.heap.size ≤ x) (k : KeepOn (fun x => ¬ D' x) b c) : KeepOn (fun x => ¬ D x) a c :=
  ⟨k.os.trans h.os, k.tape.trans h.tape, k.output.trans h.output, Nat.le_trans h.size k.size, fun x hx hd => (k.block x (Nat.lt_of_lt_of_le hx h.size) (fun hd' => by rcases hi x hd' with e | e; exact hd e; omega)).trans (h.block x hx hd)⟩
theorem inclD {D D' D'' : Nat → Prop} {m n : Nat} (h : ∀ x, D' x → D x ∨ m ≤ x) (k : ∀ x, D'' x → D' x ∨ n ≤ x) (hmn : m ≤ n) : ∀ x, D'' x → D x ∨ m ≤ x := fun x hx => by
  rcases k x hx with e | e
  · exact h x e
  · exact .inr (by omega)
/-- a row that is apart stays so -/
theorem SpSt.apart {wp w w' : World} {n : Nat} {mv lv uv lv' uv' v : Value} {Z : List (Value × List Int)} {ns xs : List Int} (s : SpSt wp n mv w lv uv Z ns) (hx : FInts w (wp.heap.size + 8) w.heap.size v xs) (hnu : ∀ g, v.ownBlock = some g → uv.ownBlock ≠ some g)
    (hk : KeepOn (fun b => ¬ SpD wp.heap.size lv uv b) w w') (hi : ∀ b, SpD wp.heap.size lv' uv' b → SpD wp.heap.size lv uv b ∨ w.heap.size ≤ b) :
    FInts w' (wp.heap.size + 8) w'.heap.size v xs ∧ ∀ g, v.ownBlock = some g → uv'.ownBlock ≠ some g := by
  have hD := s.rowD hx hnu
  refine ⟨⟨own_same hx.1 (fun g hg => hk.block g (hx.2 g hg) (hD g hg)), fun g hg => Nat.lt_of_lt_of_le (hx.2 g hg) hk.size⟩, fun g hg hu => ?_⟩
  rcases hi g (.inr (.inr (.inr hu))) with e | e
  · exact hD g hg e
  · have := hx.2 g hg; omega

theorem fold_len (M : List (List Int)) : ∀ (L : List (List Int)) (p : List (List Int) × List Int), (L.foldl (stepS M) p).1.length ≤ p.1.length + L.length := by
  intro L
  induction L with
  | nil => intro p; exact Nat.le_refl _
  | cons x xs ih =>
    intro p
    rw [List.foldl_cons]
    have h1 := ih (stepS M p x)
    by_cases h : 0 < lenF M x
    · rw [stepS_yes h] at h1 ⊢
      simp only [List.length_append, List.length_cons, List.length_nil] at h1 ⊢
      omega
    · rw [stepS_no h] at h1 ⊢
      simp only [List.length_cons] at h1 ⊢
      omega

set_option maxRecDepth 100000 in
set_option maxHeartbeats 4000000 in
theorem spNext_c (wp : World) (M : List (List Int)) (mv : Value) (hm : metB M = true) (hR : RMat wp mv M) : ∀ (d first : Nat) (av : Value) (xs : List Int) (lv uv : Value) (Z : List (Value × List Int)) (ns : List Int) (w : World),
    M.length - first < d → first ≤ M.length → xs.length ≤ first → (∀ x ∈ xs, 0 ≤ x ∧ x < (first : Int)) → FInts w (wp.heap.size + 8) w.heap.size av xs → (∀ g, av.ownBlock = some g → uv.ownBlock ≠ some g) → SpSt wp M.length mv w lv uv Z ns → Z.length + 2 ^ (M.length - first) ≤ 1000 →
    Calls Tryz.prog 82 #[av, .int .i64 first, .pointer (some ⟨wp.heap.size + 5, 0, none⟩), .pointer (some ⟨wp.heap.size + 6, 0, none⟩), .pointer (some ⟨wp.heap.size + 7, 0, none⟩)] w
      (RetSp wp M.length mv w lv uv ((sidesL (M.length - first) first xs).foldl (stepS M) (Z.map Prod.snd, ns))) := by
  have hn7 := (metB_parts hm).2.1
  intro d
  induction d with
  | zero => intro first av xs lv uv Z ns w h; omega
  | succ d ih =>
    intro first av xs lv uv Z ns w hd hf hl hin hx hnu s hZ
    have IH := hid ih
    clear ih
    obtain ⟨n, hn⟩ : ∃ n, M.length = n := ⟨_, rfl⟩
    have HN := hid hn
    have HM := hid hm
    have HR := hid hR
    have HX := hid hx
    have HNU := hid hnu
    have HIN := hid hin
    have S := hid s
    rw [hn] at hd hf hZ hn7 ⊢
    obtain ⟨R, hRR⟩ : ∃ R, (sidesL (n - first) first xs).foldl (stepS M) (Z.map Prod.snd, ns) = R := ⟨_, rfl⟩
    have HRR := hid hRR
    rw [hRR]
    have HZ := hid hZ
    obtain ⟨aa, ca, rfl⟩ := hx.form
    clear hx hnu hin s hRR hm hR hZ
    go_enter Tryz.func82, Tryz.ntmps82
    go_wp2
    go_loopg [7] (n - first) (fun gk iv wr => ∃ i : Nat, ∃ lv' uv' : Value, ∃ Z' : List (Value × List Int), ∃ ns' : List Int, first ≤ i ∧ i ≤ n ∧ gk = n - i ∧ iv = .int .i64 i ∧ SpSt wp M.length mv wr lv' uv' Z' ns' ∧ R = (sidesL (n - i) i xs).foldl (stepS M) (Z'.map Prod.snd, ns') ∧ Z'.length + 2 ^ (n - i) ≤ 1000 ∧
      KeepOn (fun b => ¬ SpD wp.heap.size lv uv b) w wr ∧ ∀ b, SpD wp.heap.size lv' uv' b → SpD wp.heap.size lv uv b ∨ w.heap.size ≤ b)
    case atStart => exact ⟨first, lv, uv, Z, ns, Nat.le_refl _, hf, rfl, rfl, S.out, HRR.out.symm, HZ.out, KeepOn.refl _ _, fun b hb => .inl hb⟩
    case round =>
      obtain ⟨i, lv1, uv1, Z1, ns1, hfi, hi, rfl, rfl, hs, hr, hz, hk, hD⟩ := hrel
      have e1 := hs.bn.cell
      rw [hn] at e1
      have S1 := hid hs
      have HST := hid hr
      have HZ1 := hid hz
      have HK := hid hk
      have HD := hid hD
      clear hs hr hz hk hD hn
      by_cases hlt : i < n
      · have hltz : (i : Int) < (n : Int) := by omega
        obtain ⟨hxa, hna⟩ := S.out.apart HX.out HNU.out HK.out HD.out
        have HXA := hid hxa
        have HNA := hid hna
        clear hxa hna
        go_wp2_with fail
        refine (clone_c _ xs _ HXA.out.r (by omega)).mono ?_
        rintro e w1 ⟨u, rfl, hF1, hb1⟩
        obtain ⟨au, cu, rfl⟩ := hF1.form
        obtain ⟨p1, p2, p3, p4, p5⟩ := push_round2 (i : Int) (by omega) hF1 hb1 hb1.size
        have P5 := hid p5
        have HB1 := hid hb1
        clear hF1 hb1 p5 e1
        go_wp2_with (at_builtin; refine wpList_append_ints rfl _ _ rfl _ _ _ _ _ [(i : Int)] rfl rfl p1 p2 p3 p4 ?_; intro v2 w2 hF2 hg2 hn2; have hb2 := P5.out _ hg2; have HF2 := hid hF2; have HB2 := hid hb2; have hs2 := S1.out.keep hb2; have S2 := hid hs2; have c2 := hs2.bv.cell; clear hg2 hn2 hs2 hb2 hF2 p1 p2 p4)
        have hmem : ∀ x ∈ xs ++ [(i : Int)], 0 ≤ x ∧ x < ((i + 1 : Nat) : Int) := fun x hx => by
          rcases List.mem_append.1 hx with h | h
          · have := HIN.out x h; omega
          · simp at h; omega
        have HMEM := hid hmem
        have hsz2 := HB2.out.size
        have hw8 := S1.out.lt
        have HX2 := hid (HF2.out.mono (lo' := wp.heap.size + 8) (by omega) (Nat.le_refl _))
        have HNZ2 : Hid (∀ z ∈ Z1, ∀ g, z.1.ownBlock = some g → v2.ownBlock ≠ some g) := fun z hz g hg hv => by
          have h1 := (S1.out.pool.1 z hz).2 g hg
          have h2 := (HF2.out.1.lt g hv).1
          omega
        have HNU2 : Hid (∀ g, v2.ownBlock = some g → uv1.ownBlock ≠ some g) := fun g hg hu => by
          have h1 := S1.out.lens.2 g hu
          have h2 := (HF2.out.1.lt g hg).1
          omega
        have hp2 : (2 : Nat) ^ (n - i) = 2 ^ (n - (i + 1)) * 2 := by rw [show n - i = (n - (i + 1)) + 1 by omega, Nat.pow_succ]
        obtain ⟨P, hP⟩ : ∃ P, (2 : Nat) ^ (n - (i + 1)) = P := ⟨_, rfl⟩
        have hP1 : 1 ≤ P := by rw [← hP]; exact Nat.one_le_two_pow
        have hz1 := HZ1.out
        rw [hp2, hP] at hz1
        have HP := hid hP
        clear hmem hp2 hP c2
        refine (visit_c wp M mv HM.out HR.out w2 lv1 uv1 v2 Z1 ns1 (xs ++ [(i : Int)]) S2.out HX2.out HNZ2.out HNU2.out ⟨fun x hx => by have := HMEM.out x hx; have := HN.out; omega, by simp; omega⟩ (by omega)).mono ?_
        rintro e w3 ⟨rfl, lv3, uv3, Z3, ns3, hs3, hr3, hk3, hd3⟩
        have hZ3 : Z3.length ≤ Z1.length + 1 := by
          have h1 := congrArg (fun p => p.1.length) hr3
          simp only [List.length_map] at h1
          have h2 := fold_len M [xs ++ [(i : Int)]] (Z1.map Prod.snd, ns1)
          simp only [List.foldl_cons, List.foldl_nil, List.length_map, List.length_cons, List.length_nil] at h2
          omega
        obtain ⟨hx3, hn3⟩ := S2.out.apart HX2.out HNU2.out hk3 hd3
        have S3 := hid hs3
        have HR3 := hid hr3
        have HX3 := hid hx3
        have HN3 := hid hn3
        have HK3 := hid (keepD_trans (HK.out.trans (KeepOn.of_below HB2.out)) HD.out hk3)
        have HD3 := hid (inclD HD.out hd3 (Nat.le_trans HK.out.size hsz2))
        have c3 := hs3.bx.cell
        clear hs3 hr3 hk3 hd3 hx3 hn3
        go_wp2_with fail
        refine (IH.out (i + 1) v2 (xs ++ [(i : Int)]) lv3 uv3 Z3 ns3 w3 (by rw [HN.out]; omega) (by rw [HN.out]; omega) (by simp; omega) HMEM.out HX3.out HN3.out S3.out (by rw [HN.out, HP.out]; omega)).mono ?_
        rintro e w4 ⟨rfl, lv4, uv4, Z4, ns4, hs4, hr4, hk4, hd4⟩
        rw [HN.out] at hr4
        have hZ4 : Z4.length + P ≤ 1000 := by
          have h1 := congrArg (fun p => p.1.length) hr4
          simp only [List.length_map] at h1
          have h2 := fold_len M (sidesL (n - (i + 1)) (i + 1) (xs ++ [(i : Int)])) (Z3.map Prod.snd, ns3)
          have h3 := sidesL_len (n - (i + 1)) (i + 1) (xs ++ [(i : Int)])
          rw [HP.out] at h3
          simp only [List.length_map] at h2
          omega
        have HST4 : Hid (R = (sidesL (n - (i + 1)) (i + 1) xs).foldl (stepS M) (Z4.map Prod.snd, ns4)) := by
          show _ = _
          rw [HST.out, show n - i = (n - (i + 1)) + 1 by omega, sidesL_succ, List.foldl_cons, List.foldl_append, ← HR3.out, ← hr4]
        have S4 := hid hs4
        have HK4 := hid (keepD_trans HK3.out HD3.out hk4)
        have HD4 := hid (inclD HD3.out hd4 HK3.out.size)
        clear hs4 hr4 hk4 hd4 c3
        go_wp2
        go_roundg (n - (i + 1))
        case rel => exact ⟨i + 1, lv4, uv4, Z4, ns4, by omega, by omega, rfl, by go_num, S4.out, HST4.out, by rw [HP.out]; exact hZ4, HK4.out, HD4.out⟩
        case measure => omega
      · have HS1 : Hid (R = (Z1.map Prod.snd, ns1)) := by show _ = _; rw [HST.out, show n - i = 0 by omega, sidesL_zero]; rfl
        go_wp2
        go_end0
        rw [HN.out.symm] at *
        exact ⟨rfl, lv1, uv1, Z1, ns1, S1.out, HS1.out.symm, HK.out, HD.out⟩

end Go.Proofs.YtnkbfgnmodfemaaGreatDoor
