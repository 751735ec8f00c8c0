/- All effective divisors of a degree, the first that breaks a divisor: the reference. -/
import Derived.Test.YtlehhfmbdcmpoaaWin
import Derived.Deep.AppendLies
namespace Go.Proofs.Ytlehhfmbdcmpoaa
open Go.RowKit
open Go.Lib (hid)

/-- all lists of d + 1 numbers from 0 on whose sum is k -/
def allL : Nat → Nat → List (List Int)
  | 0, k => [[(k : Int)]]
  | d + 1, k => (List.range (k + 1)).flatMap (fun x => (allL d (k - x)).map (fun e => (x : Int) :: e))
/-- those whose first number is below x -/
def allX (d k x : Nat) : List (List Int) := (List.range x).flatMap (fun x => (allL d (k - x)).map (fun e => (x : Int) :: e))
theorem allX_succ (d k x : Nat) : allX d k (x + 1) = allX d k x ++ (allL d (k - x)).map (fun e => (x : Int) :: e) := by
  unfold allX; rw [List.range_succ, List.flatMap_append]; simp
theorem allX_all (d k : Nat) : allX d k (k + 1) = allL (d + 1) k := rfl
theorem allL_mem : ∀ (d k : Nat) (e : List Int), e ∈ allL d k → e.length = d + 1 ∧ ∀ x ∈ e, 0 ≤ x ∧ x ≤ (k : Int) := by
  intro d
  induction d with
  | zero => intro k e he; simp [allL] at he; subst he; simp
  | succ d ih =>
    intro k e he
    simp only [allL, List.mem_flatMap, List.mem_range, List.mem_map] at he
    obtain ⟨x, hx, e', he', rfl⟩ := he
    obtain ⟨h1, h2⟩ := ih _ _ he'
    refine ⟨by simp [h1], fun y hy => ?_⟩
    rcases List.mem_cons.1 hy with rfl | hy
    · omega
    · have := h2 y hy; omega
theorem allX_len (d k : Nat) (h : ∀ j, j ≤ k → (allL d j).length ≤ 16 ^ d) : ∀ x, (allX d k x).length ≤ x * 16 ^ d := by
  intro x
  induction x with
  | zero => simp [allX]
  | succ x ih =>
    rw [allX_succ, List.length_append, List.length_map, Nat.succ_mul]
    have := h (k - x) (by omega)
    omega
theorem allL_len : ∀ (d k : Nat), k ≤ 15 → (allL d k).length ≤ 16 ^ d := by
  intro d
  induction d with
  | zero => intro k _; simp [allL]
  | succ d ih =>
    intro k hk
    rw [← allX_all]
    refine Nat.le_trans (allX_len d k (fun j hj => ih j (by omega)) (k + 1)) ?_
    rw [Nat.pow_succ, Nat.mul_comm]
    exact Nat.mul_le_mul_left _ (by omega)
theorem pow16 {d : Nat} (h : d ≤ 7) : 16 ^ d ≤ 268435456 := Nat.le_trans (Nat.pow_le_pow_right (by decide) h) (by decide)
theorem take_map_succ {l : List (List Int)} {i : Nat} (h : i < l.length) (x : Int) : (l.take (i + 1)).map (fun e => x :: e) = (l.take i).map (fun e => x :: e) ++ [x :: l.getD i []] := by
  rw [take_succ_getD l i h, List.map_append]; rfl

/-- one row in one list -/
theorem mat_one (w : World) (x : Int) : FMat ((w.alloc (.cells #[.int .i64 x] 3)).alloc (.cells #[.slice (some ⟨w.heap.size, 0, none⟩) 1 1] 23)) w.heap.size (w.heap.size + 2) (.slice (some ⟨w.heap.size + 1, 0, none⟩) 1 1) [[x]] := by
  have h1 := ints_lit w w.heap.size (Nat.le_refl _) [x] (by simp)
  have h2 := h1.keep ((Below.refl _ _).alloc (Nat.le_refl _) (.cells #[.slice (some ⟨w.heap.size, 0, none⟩) 1 1] 23))
  have h3 := World.ownsRow_lit (base := w.heap.size) (e := 23) (size := 1) (w.alloc (.cells #[.int .i64 x] 3)) #[.slice (some ⟨w.heap.size, 0, none⟩) 1 1] 1 (by simp) (by unfold maxLen; omega) (by simp)
  have hs : (w.alloc (.cells #[.int .i64 x] 3)).heap.size = w.heap.size + 1 := by simp
  rw [hs] at h3
  refine ⟨[.slice (some ⟨w.heap.size, 0, none⟩) 1 1], h3, fun g hg => by simp [Value.ownBlock] at hg; omega, rfl, fun i hi => ?_, fun i j hij hj => by simp at hj; omega⟩
  obtain rfl : i = 0 := by simp at hi; exact hi
  exact h2.mono (Nat.le_refl _) (by omega)

/-- one row more, and where the list lies -/
theorem wpList_append_row_at {w : World} {ops : Array Oper} {rest : List Oper} {o : Oper} {a : Act} {Q : Exit → Act → World → Prop} (hgd : o.guard = none) (s x : Operand)
    (ho : o.op = .call { callee := .builtin .append, args := #[s, x], argTypes := #[59, 59] }) (lo hi lr hr : Nat) (v r : Value) (ad : Addr) (c : Nat) (M : List (List Int)) (y : List Int) (hs : a.eval s = v) (hx : a.eval x = .slice (some ad) 1 c)
    (hF : FMat w lo hi v M) (hrow : FInts w lr hr r y) (hcell : w.cell? ad = some r) (hlr : hi ≤ lr) (hlo : lo ≤ lr) (hlen : M.length ≤ 1099511627776) (hls : lo ≤ w.heap.size)
    (h : ∀ v' w', FMat w' lo w'.heap.size v' (M ++ [y]) → w.grownBy w' v.ownBlock → (∀ g, v'.ownBlock = some g → v.ownBlock = some g ∨ g = w.heap.size) → wpList Try.prog ops Q rest (a.put o.dst v') w') : wpList Try.prog ops Q (o :: rest) a w := by
  refine wpList_plain hgd fun K hK => ?_
  obtain ⟨v', w', hr', h2, h3, h4⟩ := run_append_row (c := c) o.type hF hrow hlr hlo hcell hlen hls
  obtain ⟨vs, h0, _, _, _, _⟩ := hF
  obtain ⟨i0, hi0, hz0, hz1, hz2⟩ := info_parts Try.infoInts
  have hone : r.oneCell' = true := by obtain ⟨a, cap, rfl⟩ := hrow.form; rfl
  obtain ⟨g, cap, w2, hr2, _, _, hat, _⟩ := run_append_lies (P := Try.prog) w 59 o.type lo 23 i0 (.slice none 0 0) 1 24 Try.underlying59 hi0 hz0 hz1 hz2 rfl (by decide) v M.length vs h0
    ad 1 c [r] (by simp) (fun j x hx => by
      cases j with
      | zero =>
        simp at hx; subst hx
        have : ad.add 0 = ad := by unfold Addr.add; simp
        rw [this]; exact hcell
      | succ j => simp at hx) (fun x hx => by simp at hx; subst hx; exact hone) (by decide) (by unfold maxLen; omega) (by omega) hls _ rfl
  have he := hr'.symm.trans hr2
  simp only [Result.ok.injEq] at he
  obtain ⟨rfl, rfl⟩ := he
  unfold Oper.wp execOp
  simp only [ho, resolve, invoke, builtin, Sem.run_bind, Sem.run_pure, Result.andThen_ok, List.map_toArray, List.map_cons, List.map_nil, hs, hx, hr']
  exact hK _ _ (h _ _ h2 h3 (fun g' hg' => by
    simp only [Value.ownBlock, Option.some.injEq] at hg'
    subst hg'
    exact hat))

set_option maxRecDepth 100000 in
set_option maxHeartbeats 2000000 in
theorem raAll_c : ∀ (d n k : Nat) (w : World), n = d + 1 → d ≤ 7 → k ≤ 15 → Calls Try.prog 198 #[.int .i64 n, .int .i64 k] w (RetMat w (allL d k)) := by
  intro d
  induction d with
  | zero =>
    intro n k w hn _ hk
    subst hn
    have HM := hid (mat_one w (k : Int))
    have HB : Hid (Below w.heap.size w ((w.alloc (.cells #[.int .i64 (k : Int)] 3)).alloc (.cells #[.slice (some ⟨w.heap.size, 0, none⟩) 1 1] 23))) := ((Below.refl _ _).alloc (Nat.le_refl _) _).alloc (by simp) _
    go_enter Try.func198, Try.ntmps198
    go_wp2
    go_ret
    exact ⟨_, rfl, HM.out.mono (Nat.le_refl _) (by simp), HB.out⟩
  | succ d ih =>
    intro n k w hn hd hk
    have IH := hid ih
    have hn1 : ((n : Int) == 1) = false := by rw [beq_eq_false_iff_ne]; omega
    have hnn : IntKind.i64.wrap ((n : Int) - 1) = ((d + 1 : Nat) : Int) := by rw [IntWalk.i64_in _ (by omega)]; omega
    have hlen := fun x (hx : x ≤ k + 1) => allX_len d k (fun j hj => allL_len d j (by omega)) x
    have hp := pow16 (show d ≤ 7 by omega)
    have HLEN : Hid (∀ x, x ≤ k + 1 → (allX d k x).length ≤ 16 * 268435456) := fun x hx => Nat.le_trans (hlen x hx) (Nat.mul_le_mul (by omega) hp)
    have HLL : Hid (∀ j, j ≤ k → (allL d j).length ≤ 268435456) := fun j hj => Nat.le_trans (allL_len d j (by omega)) hp
    clear ih hlen hp hn
    go_enter Try.func198, Try.ntmps198
    go_wp2
    go_loopg [5, 6] (k + 1) (fun gk out xv wr => ∃ x : Nat, x ≤ k + 1 ∧ gk = k + 1 - x ∧ xv = .int .i64 x ∧ FMat wr w.heap.size wr.heap.size out (allX d k x) ∧ Below w.heap.size w wr ∧ w.heap.size ≤ wr.heap.size)
    case atStart => exact ⟨0, Nat.zero_le _, rfl, rfl, mat_nil _ _ _, Below.refl _ _, Nat.le_refl _⟩
    case round =>
      obtain ⟨x, hx, rfl, rfl, hm, hbw, hsz⟩ := hrel
      have HM := hid hm
      have HB := hid hbw
      obtain ⟨ao, no, co, rfl⟩ := hm.form3
      clear hm hbw
      by_cases hlt : x ≤ k
      · have hltz : (x : Int) ≤ (k : Int) := by omega
        have hkx : IntKind.i64.wrap ((k : Int) - (x : Int)) = ((k - x : Nat) : Int) := by rw [IntWalk.i64_in _ (by omega)]; omega
        obtain ⟨j, hj⟩ : ∃ j, k - x = j := ⟨_, rfl⟩
        have hsucc := allX_succ d k x
        have hlj := HLL.out j (by omega)
        have hlx := HLEN.out x hx
        rw [hj] at hkx hsucc
        have HS := hid hsucc
        have hj9 : j ≤ 15 := by omega
        clear hj hsucc
        go_wp2_with fail
        refine (IH.out (d + 1) j wr rfl (by omega) hj9).mono ?_
        rintro e w1 ⟨u1, rfl, hm1, hb1⟩
        obtain ⟨A, hA⟩ : ∃ A, wr.heap.size = A := ⟨_, rfl⟩
        obtain ⟨B, hB⟩ : ∃ B, w1.heap.size = B := ⟨_, rfl⟩
        have HMR := hid (show FMat w1 A B u1 (allL d j) by rw [← hA, ← hB]; exact hm1)
        have HOWN : Hid (∀ g, (Value.slice ao no co).ownBlock = some g → g < A ∨ B ≤ g) := fun g hg => by
          obtain ⟨_, hh, _⟩ := HM.out
          left; rw [← hA]; exact (hh.lt g hg).2
        have HMEM := hid (fun e he => (allL_mem d j e he).1)
        have HAB : Hid (B = w1.heap.size) := hB.symm
        have HM1 := hid (HM.out.keep hb1)
        have HB1 := hid (HB.out.trans (hb1.mono hsz))
        have hsz1 := Nat.le_trans hsz hb1.size
        have HMX := hid ((HM.out.keep hb1).mono (Nat.le_refl _) hb1.size)
        obtain ⟨al, cl, rfl⟩ := hm1.form
        obtain ⟨M, hM⟩ : ∃ M, allL d j = M := ⟨_, rfl⟩
        rw [hM] at HMR HS hlj HMEM ⊢
        clear hm1 hb1 hM hA hB
        go_wp2
        go_loopg [5, 26] M.length (fun gk out iv wr => ∃ i : Nat, i ≤ M.length ∧ gk = M.length - i ∧ iv = .int .i64 i ∧ FMat wr w.heap.size wr.heap.size out (allX d k x ++ (M.take i).map (fun e => (x : Int) :: e)) ∧ Below w.heap.size w wr ∧ w.heap.size ≤ wr.heap.size ∧ FMat wr A B (.slice al M.length cl) M ∧ (∀ g, out.ownBlock = some g → g < A ∨ B ≤ g) ∧ B ≤ wr.heap.size)
        case atStart => exact ⟨0, Nat.zero_le _, rfl, rfl, by simpa using HMX.out, HB1.out, hsz1, HMR.out, HOWN.out, Nat.le_of_eq HAB.out⟩
        case round =>
          obtain ⟨i, hi, rfl, rfl, hm, hbw, hsz2, hrf, hown, hBs⟩ := hrel
          have HRF := hid hrf
          have hrm := hrf.r
          have HOW := hid hown
          clear hrf hown HOWN
          obtain ⟨ao2, no2, co2, rfl⟩ := hm.form3
          have HM2 := hid hm
          have HB2 := hid hbw
          by_cases hlti : i < M.length
          · obtain ⟨_, _, hv, q1, q2, hc⟩ := hrm
            simp only [Value.slice.injEq] at hv
            obtain ⟨rfl, -, rfl⟩ := hv
            obtain ⟨g, o, r, y, rfl, hk1, hy, HD, HX⟩ := mat_at hc hlti
            have HT : Hid (allX d k x ++ (M.take i).map (fun e => (x : Int) :: e) ++ [[(x : Int)] ++ y] = allX d k x ++ (M.take (i + 1)).map (fun e => (x : Int) :: e)) := by
              show _ = _
              rw [take_map_succ hlti, HX.out, List.append_assoc]; rfl
            have hyl : y.length = d + 1 := HMEM.out y (by rw [← HX.out]; simp [List.getD, List.getElem?_eq_getElem hlti])
            have HY := hid (hy.keep (w' := wr.alloc (.cells #[.int .i64 (x : Int)] 3)) ((Below.refl _ _).alloc (Nat.le_refl _) _))
            have HXL := hid (ints_lit wr wr.heap.size (Nat.le_refl _) [(x : Int)] (by simp))
            have hkl : (allX d k x ++ (M.take i).map (fun e => (x : Int) :: e)).length ≤ 1099511627776 := by
              rw [List.length_append, List.length_map, List.length_take]; omega
            unfold maxLen at q2
            clear hm hbw hc hy
            go_wp2_with (first
              | (at_builtin; refine wpList_append_ints rfl _ _ rfl wr.heap.size (wr.heap.size + 1) (.slice (some ⟨wr.heap.size, 0, none⟩) 1 1) r [(x : Int)] y rfl rfl HXL.out HY.out (by simp; omega) (by simp) ?_; intro v1 w2 hF2 hg2 hn2; have hb2 : Below wr.heap.size wr w2 := ((Below.refl _ _).alloc (Nat.le_refl _) _).grown hg2 (by simp) (fun k hk => by cases hk; exact Nat.le_refl _); obtain ⟨au, nu, cu, rfl⟩ := hF2.form3; obtain ⟨p1, p2, p3, p4, p5⟩ := row_one HM2.out HB2.out hsz2 hb2 hF2; have HP4 := hid p4; have HP5 := hid p5; have HRF2 := hid ((HRF.out.keep hb2).keep ((Below.refl _ _).alloc (Nat.le_refl _) (.cells #[.slice au nu cu] 23))); have hBs2 := Nat.le_trans hBs hb2.size; clear p4 p5 hF2 hg2 hn2 hb2)
              | (at_builtin; refine wpList_append_row_at rfl _ _ rfl _ _ _ _ _ _ _ _ _ ([(x : Int)] ++ y) rfl rfl p1 p2 p3 (Nat.le_refl _) hsz2 hkl HP4.out ?_; intro v' w' hF' hg hat))
            have HB3 := hid (HP5.out.grown hg HP4.out (own_blocks p1))
            rw [HT.out] at hF'
            have HF3 := hid hF'
            have HRF3 := hid (HRF2.out.same (fun b h1 h2 h3 => hg.block b h3 (fun e => by rcases HOW.out b e.symm with h | h <;> omega)))
            have HAT := hid hat
            have hs2 : (w2.alloc (.cells #[.slice au nu cu] 23)).heap.size = w2.heap.size + 1 := by simp
            have hgs := hg.size
            have hab := HAB.out
            have HH : Hid (B ≤ w2.heap.size + 1 ∧ w.heap.size ≤ w'.heap.size ∧ B ≤ w'.heap.size) := ⟨by omega, by omega, by omega⟩
            clear hF' hg p1 p2 p3 hat hs2 hgs hab
            go_roundg (M.length - (i + 1))
            case rel => exact ⟨i + 1, by omega, rfl, by go_num, HF3.out, HB3.out, HH.out.2.1, HRF3.out, fun g hg => by
              rcases HAT.out g hg with h | h
              · exact HOW.out g h
              · right; rw [h]; have := HH.out.1; simpa using this, HH.out.2.2⟩
            case measure => omega
          · obtain rfl : i = M.length := by omega
            rw [List.take_length] at hm
            have HF3 : Hid (FMat wr w.heap.size wr.heap.size (.slice ao2 no2 co2) (allX d k (x + 1))) := by show FMat _ _ _ _ _; rw [HS.out]; exact hm
            clear hm hbw hrm
            go_wp2
            go_roundg (k + 1 - (x + 1))
            case rel => exact ⟨x + 1, by omega, rfl, by go_num, HF3.out, HB2.out, hsz2⟩
            case measure => omega
      · obtain rfl : x = k + 1 := by omega
        have HM2 : Hid (FMat wr w.heap.size wr.heap.size (.slice ao no co) (allL (d + 1) k)) := by show FMat _ _ _ _ _; rw [← allX_all]; exact HM.out
        go_wp2
        go_ret
        exact ⟨_, rfl, HM2.out, HB.out⟩

/-- the first effective divisor of a degree that breaks a divisor -/
noncomputable def brkO (n : Nat) (L : List Lnk) (f : Nat → Int) (k : Nat) : Option (List Int) := (allL (n - 1) k).find? (fun e => !winB n L (fun i => f i - e.getD i 0))
def optB (o : Option (List Int)) : List Int × Bool := (o.getD [], o.isSome)
theorem find_drop {l : List (List Int)} {p : List Int → Bool} {i : Nat} (h : i < l.length) : (l.drop i).find? p = if p (l.getD i []) then some (l.getD i []) else (l.drop (i + 1)).find? p := by
  rw [List.drop_eq_getElem_cons h, List.find?_cons]
  simp only [List.getD, List.getElem?_eq_getElem h, Option.getD_some]
  split <;> simp_all
/-- numbers within eight -/
def small8 (n : Nat) (f : Nat → Int) : Prop := ∀ i, i < n → -9 ≤ f i ∧ f i ≤ 8
theorem small_less {k : Nat} (hk : k ≤ 15) {e : List Int} (he : ∀ x ∈ e, 0 ≤ x ∧ x ≤ (k : Int)) (i : Nat) : 0 ≤ e.getD i 0 ∧ e.getD i 0 ≤ 15 := by
  by_cases hi : i < e.length
  · have := he (e.getD i 0) (by simp [List.getD, List.getElem?_eq_getElem hi])
    omega
  · simp [List.getD, hi]
theorem small_sub {n k : Nat} {f : Nat → Int} (h : small8 n f) (hk : k ≤ 15) {e : List Int} (he : ∀ x ∈ e, 0 ≤ x ∧ x ≤ (k : Int)) : small40 n (fun i => f i - e.getD i 0) := fun i hi => by
  have := small_less hk he i
  have := h i hi
  dsimp only
  omega

set_option maxRecDepth 100000 in
set_option maxHeartbeats 2000000 in
theorem raBreaks_c (n k : Nat) (v u : Value) (L : List Lnk) (f : Nat → Int) (w : World) (h : RLinks w v L) (hG : GoodL n L) (hc : (grL n L hG).Conn 0) (hd : RInts w u (lst n f)) (hs : small8 n f) (hk : k ≤ 15) :
    Calls Try.prog 159 #[.int .i64 n, v, u, .int .i64 k] w (RetIB w (optB (brkO n L f k))) := by
  have HR := hid h
  have HD := hid hd
  have HS := hid hs
  have hn8 := hG.n8
  have hn1 := hG.n1
  obtain ⟨a, cap, rfl⟩ := h.form
  obtain ⟨gd, od, cd, rfl, hcd1, hcd2, _⟩ := ri_open hd (by omega)
  clear h hd hs
  go_enter Try.func159, Try.ntmps159
  go_wp2_with fail
  refine (raAll_c (n - 1) n k w (by omega) (by omega) hk).mono ?_
  rintro e w1 ⟨u1, rfl, hm1, hb1⟩
  obtain ⟨M, hM⟩ : ∃ M, allL (n - 1) k = M := ⟨_, rfl⟩
  have hB0 : brkO n L f k = (M.drop 0).find? (fun e => !winB n L (fun i => f i - e.getD i 0)) := by unfold brkO; rw [hM, List.drop_zero]
  have hmem := fun e he => allL_mem (n - 1) k e he
  have hlen := Nat.le_trans (allL_len (n - 1) k hk) (pow16 (by omega))
  rw [hM] at hm1 hmem hlen
  have HMEM := hid hmem
  have HM1 := hid hm1
  have HB1 := hid hb1
  have HB0 := hid hB0
  obtain ⟨al, cl, rfl⟩ := hm1.form
  have hsz1 := hb1.size
  clear hm1 hb1 hB0 hM hmem
  go_wp2
  go_loopg [16] M.length (fun gk iv wr => ∃ i : Nat, i ≤ M.length ∧ gk = M.length - i ∧ iv = .int .i64 i ∧ FMat wr w.heap.size w1.heap.size (.slice al M.length cl) M ∧ Below w.heap.size w wr ∧ w1.heap.size ≤ wr.heap.size ∧ brkO n L f k = (M.drop i).find? (fun e => !winB n L (fun i => f i - e.getD i 0)))
  case atStart => exact ⟨0, Nat.zero_le _, rfl, rfl, HM1.out, HB1.out, Nat.le_refl _, HB0.out⟩
  case round =>
    obtain ⟨i, hi, rfl, rfl, hm, hbw, hsz, hfi⟩ := hrel
    have HF := hid hm
    have HB := hid hbw
    by_cases hlt : i < M.length
    · rw [find_drop hlt] at hfi
      obtain ⟨vs, h0, h0b, h0l, hrs, _⟩ := hm
      obtain ⟨a', c', hv, q1, q2, _, _, hcell⟩ := own_form h0
      simp only [Value.slice.injEq] at hv
      obtain ⟨rfl, -, rfl⟩ := hv
      obtain ⟨g, rfl, _, _, hc1, _⟩ := hcell i hlt
      have hrow := hrs i hlt
      have hvi : vs[i]? = some (vs.getD i .nilFunc) := by simp [List.getD, List.getElem?_eq_getElem (show i < vs.length by omega)]
      rw [hvi] at hc1
      have hmi := HMEM.out (M.getD i []) (by simp [List.getD, List.getElem?_eq_getElem hlt])
      obtain ⟨y, hy⟩ : ∃ y, M.getD i [] = y := ⟨_, rfl⟩
      rw [hy] at hrow hmi hfi
      obtain ⟨r, hr⟩ : ∃ r, vs.getD i .nilFunc = r := ⟨_, rfl⟩
      rw [hr] at hrow hc1
      obtain ⟨ar, nr, cr, rfl⟩ := hrow.form3
      have HROW := hid hrow
      have HFI := hid hfi
      have hrl := rints_lst hrow.r (show y.length = n by omega)
      have HRL := hid hrl
      have HD1 := hid (HD.out.keep hbw)
      have HSM := hid (small_sub HS.out hk hmi.2)
      have HLE := hid (small_less hk hmi.2)
      unfold maxLen at q2
      clear hbw hfi h0 h0b h0l hrs hcell hrow hvi hy hr hmi hrl
      go_wp2_with fail
      refine (raLess_c n _ _ f (fun i => y.getD i 0) _ HD1.out HRL.out (by omega) (fun i hi => by have := HS.out i hi; omega) (fun i _ => by have := HLE.out i; omega)).mono ?_
      rintro e w2 ⟨u2, rfl, hF2, hb2⟩
      have HF2 := hid hF2.r
      have HB2 := hid (HB.out.trans (hb2.mono HB.out.size))
      have HM2 := hid (HF.out.keep hb2)
      have HR2 := hid (HR.out.keep HB2.out)
      have HROW2 := hid (HROW.out.keep hb2)
      have hsz2 := Nat.le_trans hsz hb2.size
      obtain ⟨a2, n2, c2, rfl⟩ := hF2.form3
      clear hF2 hb2
      go_wp2_with fail
      refine (rdWins_c n _ _ L (fun i => f i - y.getD i 0) _ HR2.out hG hc HF2.out HSM.out).mono ?_
      rintro e w3 ⟨rfl, hb3⟩
      have HB3 := hid (HB2.out.trans (hb3.mono HB2.out.size))
      have HM3 := hid (HM2.out.keep hb3)
      have HROW3 := hid (HROW2.out.keep hb3)
      have hsz3 := Nat.le_trans hsz2 hb3.size
      clear hb3
      rcases Bool.eq_false_or_eq_true (winB n L (fun i => f i - y.getD i 0)) with t | t
      · have HN : Hid (brkO n L f k = (M.drop (i + 1)).find? (fun e => !winB n L (fun i => f i - e.getD i 0))) := by
          show _ = _; rw [HFI.out, t]; simp
        rw [t]
        go_wp2
        go_roundg (M.length - (i + 1))
        case rel => exact ⟨i + 1, by omega, rfl, by go_num, HM3.out, HB3.out, hsz3, HN.out⟩
        case measure => omega
      · have HN : Hid (brkO n L f k = some y) := by
          show _ = _; rw [HFI.out, t]; simp
        rw [t]
        go_wp2
        go_ret2
        exact ⟨_, by rw [HN.out]; rfl, by rw [HN.out]; exact HROW3.out.mono (Nat.le_refl _) hsz3, HB3.out⟩
    · obtain rfl : i = M.length := by omega
      have HN : Hid (brkO n L f k = none) := by show _ = _; rw [hfi, List.drop_length]; rfl
      clear hbw hfi
      go_wp2
      go_ret2
      exact ⟨_, by rw [HN.out]; rfl, by rw [HN.out]; exact ints_nil _ _ _, HB.out⟩

end Go.Proofs.Ytlehhfmbdcmpoaa
