/- All effective divisors of a degree, shown to a visitor: the program. -/
import Derived.Test.YtlehhfmbdcmpoaaAll
import Derived.Test.YtlehhfmbdcmpoaaVisit
namespace Go.Proofs.Ytlehhfmbdcmpoaa
open Go.RowKit
open Go.Lib (hid)

section
variable {σ : Type} (ok : σ → List Int → Bool) (step : σ → List Int → σ)
/-- the lists are shown one by one, as long as it says yes -/
def visL : List (List Int) → σ → Bool × σ
  | [], s => (true, s)
  | x :: xs, s => if ok s x then visL xs (step s x) else (false, step s x)
theorem visL_append (a b : List (List Int)) (s : σ) : visL ok step (a ++ b) s = if (visL ok step a s).1 then visL ok step b (visL ok step a s).2 else visL ok step a s := by
  induction a generalizing s with
  | nil => simp [visL]
  | cons x xs ih =>
    cases h : ok s x with
    | true => simp [visL, h, ih]
    | false => simp [visL, h]
theorem visL_one (x : List Int) (s : σ) : visL ok step [x] s = (ok s x, step s x) := by
  simp only [visL]; split <;> simp_all
end

theorem lst_put (v : Nat) (f g : Nat → Int) (x : Int) (h : ∀ i, i < v → g i = f i) : lst (v + 1) (upd g v x) = lst v f ++ [x] := by
  rw [lst_succ, upd_self, lst_congr (g := f) (fun i hi => by rw [upd_other _ _ (by omega)]; exact h i hi)]
/-- what lies behind the first x of them -/
def restX (d k v x : Nat) (f : Nat → Int) : List (List Int) := (List.range' x (k + 1 - x)).flatMap (fun x => (allL d (k - x)).map (fun e => lst v f ++ ((x : Int) :: e)))
theorem rest_zero (d k v : Nat) (f : Nat → Int) : (allL (d + 1) k).map (fun e => lst v f ++ e) = restX d k v 0 f := by
  unfold restX
  simp only [allL, List.map_flatMap, List.map_map]
  rw [List.range_eq_range']
  rfl
theorem rest_next {d k v x : Nat} {f : Nat → Int} (h : x ≤ k) {g : Nat → Int} (hg : lst (v + 1) g = lst v f ++ [(x : Int)]) : restX d k v x f = (allL d (k - x)).map (fun e => lst (v + 1) g ++ e) ++ restX d k v (x + 1) f := by
  unfold restX
  rw [show k + 1 - x = (k + 1 - (x + 1)) + 1 by omega, List.range'_succ, List.flatMap_cons]
  congr 1
  apply List.map_congr_left
  intro e _
  rw [hg, List.append_assoc]; rfl
theorem rest_end (d k v : Nat) (f : Nat → Int) : restX d k v (k + 1) f = [] := by
  unfold restX; rw [Nat.sub_self]; rfl

theorem KeepOn.set' {S : Nat → Prop} (w : World) (b o : Nat) (v : Value) (hs : ¬ S b) : KeepOn S w (w.setCell ⟨b, o, none⟩ v) :=
  ⟨rfl, rfl, rfl, by simp [World.setCell], fun c _ hc => heap_setCell_other _ _ _ _ (fun e => hs (by have e' : c = b := e; rw [← e']; exact hc))⟩
/-- the boxes of chips, from block h on, and what it has laid -/
structure CpSt (h n : Nat) (F : Nat) (caps : Array Value) (D : Nat → Prop) (w : World) (f : Nat → Int) : Prop where
  bn : Boxed w h 3 (.int .i64 n)
  bv : Boxed w (h + 1) 98 (.func (.func F) #[] caps)
  row : FInts w (h + 2) (h + 3) (.slice (some ⟨h + 2, 0, none⟩) n n) (lst n f)
  bl : Boxed w (h + 3) 23 (.slice (some ⟨h + 2, 0, none⟩) n n)
  bx : Boxed w (h + 4) 153 (.func (.func 212) #[] #[.pointer (some ⟨h, 0, none⟩), .pointer (some ⟨h + 3, 0, none⟩), .pointer (some ⟨h + 1, 0, none⟩), .pointer (some ⟨h + 4, 0, none⟩)])
  no : ∀ j, j < 5 → ¬ D (h + j)
  dlt : ∀ b, D b → b < w.heap.size
theorem CpSt.lt {h n F : Nat} {caps : Array Value} {D : Nat → Prop} {w : World} {f : Nat → Int} (c : CpSt h n F caps D w f) : h + 4 < w.heap.size := c.bx.lt
/-- another's step -/
theorem CpSt.step {h n F : Nat} {caps : Array Value} {D D' : Nat → Prop} {w w' : World} {f : Nat → Int} (c : CpSt h n F caps D w f) (hk : KeepOn (fun b => ¬ D b) w w') (hD : ∀ b, D' b → b < w'.heap.size ∧ (D b ∨ w.heap.size ≤ b)) : CpSt h n F caps D' w' f := by
  have hlt := c.lt
  have old : ∀ j, j < 5 → w'.heap[h + j]? = w.heap[h + j]? := fun j hj => hk.block _ (by omega) (c.no j hj)
  refine ⟨(old 0 (by omega)).trans c.bn, (old 1 (by omega)).trans c.bv, c.row.same (fun b h1 h2 _ => ?_), (old 3 (by omega)).trans c.bl, (old 4 (by omega)).trans c.bx, fun j hj hd => ?_, fun b hb => (hD b hb).1⟩
  · have e : b = h + 2 := by omega
    rw [e]; exact old 2 (by omega)
  · rcases (hD _ hd).2 with h1 | h1
    · exact c.no j hj h1
    · omega
/-- a number is laid -/
theorem CpSt.put {h n F : Nat} {caps : Array Value} {D : Nat → Prop} {w : World} {f : Nat → Int} (c : CpSt h n F caps D w f) {v : Nat} (hv : v < n) (x : Int) :
    CpSt h n F caps D (w.setCell ⟨h + 2, v, none⟩ (.int .i64 x)) (upd f v x) ∧ KeepOn (fun b => b < h ∨ D b) w (w.setCell ⟨h + 2, v, none⟩ (.int .i64 x)) := by
  have oth : ∀ b, b ≠ h + 2 → (w.setCell ⟨h + 2, v, none⟩ (.int .i64 x)).heap[b]? = w.heap[b]? := fun b hb => heap_setCell_other _ _ _ _ hb
  have hn2 : ¬ D (h + 2) := c.no 2 (by omega)
  obtain ⟨_, _, hset⟩ := fi_open c.row
  exact ⟨⟨(oth _ (by omega)).trans c.bn, (oth _ (by omega)).trans c.bv, (hset v x hv).1, (oth _ (by omega)).trans c.bl, (oth _ (by omega)).trans c.bx, c.no, fun b hb => by simpa [World.setCell] using c.dlt b hb⟩,
    KeepOn.set' _ _ _ _ (by intro hS; rcases hS with e | e; omega; exact hn2 e)⟩

/-- a result of chips behind a beginning -/
def RetCp {σ : Type} (h n F : Nat) (caps : Array Value) (V : σ → World → (Nat → Prop) → Prop) (D : Nat → Prop) (w : World) (v : Nat) (f : Nat → Int) (p : Bool × σ) (e : Ending) (w' : World) : Prop :=
  ∃ (D' : Nat → Prop) (f' : Nat → Int), e = .returned (.bool p.1) ∧ V p.2 w' D' ∧ (∀ c, D' c → c < w'.heap.size ∧ (D c ∨ w.heap.size ≤ c)) ∧ KeepOn (fun c => c < h ∧ ¬ D c) w w' ∧ CpSt h n F caps D' w' f' ∧ ∀ i, i < v → f' i = f i

set_option maxRecDepth 100000 in
set_option maxHeartbeats 4000000 in
theorem chips1_c {σ : Type} {ok : σ → List Int → Bool} {step : σ → List Int → σ} {V : σ → World → (Nat → Prop) → Prop} {pre : List Int → Prop} {h F : Nat} {caps : Array Value} (n : Nat) (hn : n ≤ 1000)
    (HV : Vis σ h F caps ok step V pre) :
    ∀ (d v left : Nat) (f : Nat → Int) (s : σ) (D : Nat → Prop) (w : World), v + d + 1 = n → left ≤ 1000 → (∀ e, e ∈ allL d left → pre (lst v f ++ e)) → CpSt h n F caps D w f → V s w D →
      Calls Try.prog 212 #[.int .i64 v, .int .i64 left, .pointer (some ⟨h, 0, none⟩), .pointer (some ⟨h + 3, 0, none⟩), .pointer (some ⟨h + 1, 0, none⟩), .pointer (some ⟨h + 4, 0, none⟩)] w
        (RetCp h n F caps V D w v f (visL ok step ((allL d left).map (fun e => lst v f ++ e)) s)) := by
  intro d
  induction d with
  | zero =>
    intro v left f s D w hd hl hpre hc hV
    have e4 := hc.bn.cell
    have e1 := hc.bl.cell
    have henter := HV.enter
    obtain ⟨hc1, hk1⟩ := hc.put (v := v) (by omega) (left : Int)
    have e2 := hc1.bl.cell
    have e3 := hc1.bv.cell
    obtain ⟨hcell, _, _⟩ := fi_open hc.row
    have a1 := (hcell v (by omega)).1
    have a2 := (hcell v (by omega)).2
    have hlst : lst n (upd f v (left : Int)) = lst v f ++ [(left : Int)] := by rw [← hd]; exact lst_put v f f _ (fun _ _ => rfl)
    have hp := hpre [(left : Int)] (by simp [allL])
    have hR : visL ok step ((allL 0 left).map (fun e => lst v f ++ e)) s = (ok s (lst v f ++ [(left : Int)]), step s (lst v f ++ [(left : Int)])) := visL_one ok step _ s
    have HR := hid hR
    have HP := hid hp
    have HL := hid hlst
    have HC1 := hid hc1
    have HK1 := hid hk1
    have HV1 := hid (HV.frame _ _ _ _ hV hk1)
    have f1 : IntKind.i64.wrap ((n : Int) - 1) = (n : Int) - 1 := IntWalk.i64_in _ (by omega)
    have t1 : ((v : Int) == (n : Int) - 1) = true := by rw [beq_iff_eq]; omega
    have hvz : (v : Int) < (n : Int) := by omega
    obtain ⟨W, hW⟩ : ∃ W, w.setCell ⟨h + 2, v, none⟩ (.int .i64 (left : Int)) = W := ⟨_, rfl⟩
    rw [hW] at HC1 HK1 HV1 e2 e3
    clear hc1 hk1 hc hV hcell hlst hpre hp hR
    go_enter Try.func212, Try.ntmps212
    go_wp2
    have hrow := HC1.out.row.r
    rw [HL.out] at hrow
    refine (HV.call s W D _ _ HV1.out hrow HP.out (by have := HC1.out.lt; omega)).mono ?_
    clear hrow
    rintro e w1 ⟨D1, rfl, hV1, hD1, hk1⟩
    have hsW : w.heap.size = W.heap.size := by rw [← hW]; simp [World.setCell]
    have H1 := hid (And.intro hV1 (And.intro (HC1.out.step hk1 hD1) (show KeepOn (fun c => c < h ∧ ¬ D c) w w1 from (HK1.out.mono (fun b _ hb => .inl hb.1)).trans (hk1.mono (fun b _ hb => hb.2)))))
    have HD1 := hid (show ∀ c, D1 c → c < w1.heap.size ∧ (D c ∨ w.heap.size ≤ c) from fun c hc => by rw [hsW]; exact hD1 c hc)
    clear hV1 hD1 hk1 hsW hW e1 e2 e3 e4 a1 a2
    go_wp2
    go_ret
    exact ⟨D1, _, by rw [HR.out]; rfl, by rw [HR.out]; exact H1.out.1, HD1.out, H1.out.2.2, H1.out.2.1, fun i hi => upd_other _ _ (by omega)⟩
  | succ d ih =>
    intro v left f s D w hd hl hpre hc hV
    have IH := hid ih
    clear ih
    have e4 := hc.bn.cell
    have HPRE := hid hpre
    have HC := hid hc
    have HVV := hid hV
    have f1 : IntKind.i64.wrap ((n : Int) - 1) = (n : Int) - 1 := IntWalk.i64_in _ (by omega)
    have t1 : ((v : Int) == (n : Int) - 1) = false := by rw [beq_eq_false_iff_ne]; omega
    have f2 : IntKind.i64.wrap ((left : Int) + 1) = ((left + 1 : Nat) : Int) := by rw [IntWalk.i64_in _ (by omega)]; omega
    have hvz : (v : Int) < (n : Int) := by omega
    have hR0 : visL ok step ((allL (d + 1) left).map (fun e => lst v f ++ e)) s = visL ok step (restX d left v 0 f) s := by rw [rest_zero]
    obtain ⟨R, hR⟩ : ∃ R, visL ok step ((allL (d + 1) left).map (fun e => lst v f ++ e)) s = R := ⟨_, rfl⟩
    rw [hR] at hR0 ⊢
    have HR0 := hid hR0
    clear hpre hc hV hR0 hR
    go_enter Try.func212, Try.ntmps212
    go_wp2
    clear e4
    go_loopg [23] (left + 1) (fun gk iv wr => ∃ x : Nat, ∃ s' : σ, ∃ D' : Nat → Prop, ∃ f' : Nat → Int, x ≤ left + 1 ∧ gk = left + 1 - x ∧ iv = .int .i64 x ∧ R = visL ok step (restX d left v x f) s' ∧ CpSt h n F caps D' wr f' ∧ V s' wr D' ∧ (∀ c, D' c → D c ∨ w.heap.size ≤ c) ∧ KeepOn (fun c => c < h ∧ ¬ D c) w wr ∧ ∀ i, i < v → f' i = f i)
    case atStart => exact ⟨0, s, D, f, Nat.zero_le _, rfl, rfl, HR0.out, HC.out, HVV.out, fun c hc => .inl hc, KeepOn.refl _ _, fun _ _ => rfl⟩
    case round =>
      obtain ⟨x, s1, D1, g, hx, rfl, rfl, hr, hc, hV, hD, hkp, hg⟩ := hrel
      have HV1 := hid hV
      have HD1 := hid hD
      have HKP := hid hkp
      have HC1 := hid hc
      have HG := hid hg
      clear hV hD hkp
      by_cases hlt : x ≤ left
      · have hlst := lst_put v f g (x : Int) hg
        rw [rest_next hlt hlst, visL_append] at hr
        have hpre : ∀ e, e ∈ allL d (left - x) → pre (lst (v + 1) (upd g v (x : Int)) ++ e) := fun e he => by
          rw [hlst, List.append_assoc]
          refine HPRE.out _ ?_
          simp only [allL, List.mem_flatMap, List.mem_range, List.mem_map]
          exact ⟨x, by omega, e, he, rfl⟩
        obtain ⟨hc1, hk1⟩ := hc.put (v := v) (by omega) (x : Int)
        have e1 := hc.bl.cell
        have e2 := hc1.bx.cell
        obtain ⟨hcell, _, _⟩ := fi_open hc.row
        have a1 := (hcell v (by omega)).1
        have a2 := (hcell v (by omega)).2
        have hcall := IH.out (v + 1) (left - x) (upd g v (x : Int)) s1 D1 _ (by omega) (by omega) hpre hc1 (HV.frame _ _ _ _ HV1.out hk1)
        obtain ⟨p, hp⟩ : ∃ p, visL ok step ((allL d (left - x)).map (fun e => lst (v + 1) (upd g v (x : Int)) ++ e)) s1 = p := ⟨_, rfl⟩
        rw [hp] at hcall hr
        have hnum : ((v + 1 : Nat) : Int) = (v : Int) + 1 := by omega
        have hnum2 : ((left - x : Nat) : Int) = (left : Int) - (x : Int) := by omega
        rw [hnum, hnum2] at hcall
        obtain ⟨W, hW⟩ : ∃ W, wr.setCell ⟨h + 2, v, none⟩ (.int .i64 (x : Int)) = W := ⟨_, rfl⟩
        rw [hW] at hcall e2 hk1
        have HCALL := hid hcall
        have HK1 := hid hk1
        have HR := hid hr
        have hsW : wr.heap.size = W.heap.size := by rw [← hW]; simp [World.setCell]
        have HSW := hid hsW
        have f3 : IntKind.i64.wrap ((v : Int) + 1) = (v : Int) + 1 := IntWalk.i64_in _ (by omega)
        have f4 : IntKind.i64.wrap ((left : Int) - (x : Int)) = (left : Int) - (x : Int) := IntWalk.i64_in _ (by omega)
        have hxz : (x : Int) < (left : Int) + 1 := by omega
        have hxz2 : (x : Int) < ((left + 1 : Nat) : Int) := by omega
        clear hlst hpre hc1 hk1 hc hcell hcall hp hnum hnum2 hr hg hsW
        go_wp2_with fail
        refine HCALL.out.mono ?_
        rintro e w3 ⟨D3, f3', rfl, hV3, hD3, hk3, hc3, hf3⟩
        have hDD : ∀ c, D3 c → D c ∨ w.heap.size ≤ c := fun c hc => by
          rcases (hD3 c hc).2 with h1 | h1
          · exact HD1.out c h1
          · have := HKP.out.size; have := HSW.out; omega
        have hkk : KeepOn (fun c => c < h ∧ ¬ D c) w w3 := (HKP.out.trans (HK1.out.mono (fun b _ hb => .inl hb.1))).trans (hk3.mono (fun b _ hb => ⟨hb.1, fun hd => by
          rcases HD1.out b hd with h1 | h1
          · exact hb.2 h1
          · have := HC.out.lt; omega⟩))
        have hfg : ∀ i, i < v → f3' i = f i := fun i hi => by rw [hf3 i (by omega), upd_other _ _ (by omega)]; exact HG.out i hi
        have H3 := hid (And.intro hV3 (And.intro (fun c hc => And.intro (hD3 c hc).1 (hDD c hc)) (And.intro hkk (And.intro hc3 hfg))))
        clear hV3 hD3 hk3 hc3 hf3 hDD hkk hfg e1 e2 a1 a2 hW
        rcases Bool.eq_false_or_eq_true p.1 with t3 | t3
        · have HL : Hid (R = visL ok step (restX d left v (x + 1) f) p.2) := by show _ = _; rw [HR.out, if_pos t3]
          rw [t3]
          go_wp2
          go_roundg (left + 1 - (x + 1))
          case rel => exact ⟨x + 1, _, D3, f3', by omega, rfl, by go_num, HL.out, H3.out.2.2.2.1, H3.out.1, fun c hc => (H3.out.2.1 c hc).2, H3.out.2.2.1, H3.out.2.2.2.2⟩
          case measure => omega
        · have HL : Hid (R = p) := by show _ = _; rw [HR.out, if_neg (by rw [t3]; decide)]
          rw [t3]
          go_wp2
          go_ret
          exact ⟨D3, f3', by rw [HL.out, t3]; rfl, by rw [HL.out]; exact H3.out.1, H3.out.2.1, H3.out.2.2.1, H3.out.2.2.2.1, H3.out.2.2.2.2⟩
      · obtain rfl : x = left + 1 := by omega
        have HL : Hid (R = (true, s1)) := by show _ = _; rw [hr, rest_end]; rfl
        clear hr hc hg
        go_wp2
        go_ret
        exact ⟨D1, g, by rw [HL.out]; rfl, by rw [HL.out]; exact HV1.out, fun c hc => ⟨HC1.out.dlt c hc, HD1.out c hc⟩, HKP.out, HC1.out, HG.out⟩

/-- the memory that chips makes -/
theorem cp_start (w : World) (n F : Nat) (hn : n ≤ 1000) (caps : Array Value) (D : Nat → Prop) (hD : ∀ b, D b → b < w.heap.size) :
    let W := (((((w.alloc (.cells #[.int .i64 n] 3)).alloc (.cells #[.func (.func F) #[] caps] 98)).alloc (.cells (madeCells #[.int .i64 0] n) 3)).alloc (.cells #[.slice (some ⟨w.heap.size + 1 + 1, 0, none⟩) n n] 23)).alloc
      (.cells #[.func (.func 212) #[] #[.pointer (some ⟨w.heap.size, 0, none⟩), .pointer (some ⟨w.heap.size + 1 + 1 + 1, 0, none⟩), .pointer (some ⟨w.heap.size + 1, 0, none⟩), .pointer (some ⟨w.heap.size + 1 + 1 + 1 + 1, 0, none⟩)]] 153))
    CpSt w.heap.size n F caps D W (fun _ => 0) ∧ Below w.heap.size w W := by
  intro W
  have hb : Below w.heap.size w W := (((((Below.refl _ _).alloc (by omega) _).alloc (by simp) _).alloc (by simp; omega) _).alloc (by simp; omega) _).alloc (by simp; omega) _
  have look : ∀ (u : World) (o o' : Obj) (b : Nat), u.heap[b]? = some o → (u.alloc o').heap[b]? = some o := fun u o o' b hx => by
    rw [Below.heap_alloc _ _ _ (Array.getElem?_eq_some_iff.1 hx).1]; exact hx
  have new : ∀ (u : World) (o : Obj) (b : Nat), b = u.heap.size → (u.alloc o).heap[b]? = some o := fun u o b hb => by rw [hb]; exact heap_alloc_new u o
  refine ⟨⟨?_, ?_, ?_, ?_, ?_, fun j hj hd => ?_, fun b hd => ?_⟩, hb⟩
  · exact look _ _ _ _ (look _ _ _ _ (look _ _ _ _ (look _ _ _ _ (new _ _ _ rfl))))
  · exact look _ _ _ _ (look _ _ _ _ (look _ _ _ _ (new _ _ _ (by simp))))
  · have h3 := fi_made ((w.alloc (.cells #[.int .i64 n] 3)).alloc (.cells #[.func (.func F) #[] caps] 98)) n (by omega)
    have hs : ((w.alloc (.cells #[.int .i64 n] 3)).alloc (.cells #[.func (.func F) #[] caps] 98)).heap.size = w.heap.size + 2 := by simp
    rw [hs] at h3
    exact (h3.keep ((Below.refl _ _).alloc (Nat.le_refl _) _)).keep ((Below.refl _ _).alloc (Nat.le_refl _) _)
  · exact look _ _ _ _ (new _ _ _ (by simp))
  · exact new _ _ _ (by simp)
  · have := hD _ hd; omega
  · have := hD b hd; have := hb.size; omega

set_option maxRecDepth 100000 in
set_option maxHeartbeats 2000000 in
theorem chips_c {σ : Type} {ok : σ → List Int → Bool} {step : σ → List Int → σ} {V : σ → World → (Nat → Prop) → Prop} {pre : List Int → Prop} {F : Nat} {caps : Array Value} (n k : Nat) (hn1 : 1 ≤ n) (hn : n ≤ 1000) (hk : k ≤ 1000) (s : σ) (D : Nat → Prop) (w : World)
    (HV : Vis σ w.heap.size F caps ok step V pre) (hpre : ∀ e, e ∈ allL (n - 1) k → pre e) (hV : V s w D) (hD : ∀ b, D b → b < w.heap.size) :
    Calls Try.prog 196 #[.int .i64 n, .int .i64 k, .func (.func F) #[] caps] w (RetV V D w (visL ok step (allL (n - 1) k) s).1 (visL ok step (allL (n - 1) k) s).2) := by
  have HVV := hid hV
  have hmk := run_make_row' (P := Try.prog) 23 3 (.int .i64 0) 8 Try.underlying23 Try.infoInt rfl .i64 .i64 n (by omega) (by omega)
  have hmap : (allL (n - 1) k).map (fun e => lst 0 (fun _ => 0) ++ e) = allL (n - 1) k := by
    simp [lst_zero]
  have HMAP := hid hmap
  clear hV hmap
  go_enter Try.func196, Try.ntmps196
  go_wp2_with fail
  obtain ⟨hc, hb⟩ := cp_start w n F hn caps D hD
  have HC := hid hc
  have HB := hid hb
  clear hc hb
  have hcall := chips1_c n hn HV (n - 1) 0 k (fun _ => 0) s D _ (by omega) hk (fun e he => by rw [lst_zero]; exact hpre e he) HC.out (HV.frame _ _ _ _ HVV.out (KeepOn.of_below HB.out))
  rw [HMAP.out] at hcall
  refine hcall.mono ?_
  clear hcall
  rintro e w1 ⟨D1, f1, rfl, hV1, hD1, hk1, _⟩
  have H1 := hid hV1
  have HD1 := hid (show ∀ c, D1 c → c < w1.heap.size ∧ (D c ∨ w.heap.size ≤ c) from fun c hc => ⟨(hD1 c hc).1, by
    rcases (hD1 c hc).2 with h1 | h1
    · exact .inl h1
    · have := HB.out.size; exact .inr (by omega)⟩)
  have HK1 := hid (show KeepOn (fun c => ¬ D c) w w1 from ⟨hk1.os.trans HB.out.os, hk1.tape.trans HB.out.tape, hk1.output.trans HB.out.output, Nat.le_trans HB.out.size hk1.size, fun b hb hd => (hk1.block b (Nat.lt_of_lt_of_le hb HB.out.size) ⟨hb, hd⟩).trans (HB.out.block b hb)⟩)
  clear hV1 hD1 hk1
  go_wp2
  go_ret
  exact ⟨D1, rfl, H1.out, HD1.out, HK1.out⟩

end Go.Proofs.Ytlehhfmbdcmpoaa
