/- The choices of k of n points with a visitor whose state has a measure that a call raises by one at most, and that must stay below a bound. -/
import Derived.Test.YtcgcgmlonhganaaVisit
namespace Go.Proofs.Ytcgcgmlonhganaa
open Go.RowKit
open Go.Lib (hid)

/-- what is asked of a visitor F that may be called as long as its state's measure is below B -/
structure VisG (σ : Type) (h : Nat) (F : Nat) (caps : Array Value) (ok : σ → List Int → Bool) (step : σ → List Int → σ) (V : σ → World → (Nat → Prop) → Prop) (pre : List Int → Prop) (μ : σ → Nat) (B : Nat) : Prop where
  enter : ∀ args w, (callFunc F args).run Try.prog w = .ok (.enter F args) w
  frame : ∀ s w w' D, V s w D → KeepOn (fun b => b < h ∨ D b) w w' → V s w' D
  up : ∀ s xs, μ (step s xs) ≤ μ s + 1
  call : ∀ s w D v xs, V s w D → RInts w v xs → pre xs → h ≤ w.heap.size → μ s < B → Calls Try.prog F (#[v] ++ caps) w (RetV V D w (ok s xs) (step s xs))

theorem loopR_mu {σ : Type} {f : Nat → σ → Bool × σ} (μ : σ → Nat) (P : Nat) : ∀ (m i : Nat) (s : σ), (∀ j s, i ≤ j → j < i + m → μ (f j s).2 ≤ μ s + P) → μ (loopR f m i s).2 ≤ μ s + m * P := by
  intro m
  induction m with
  | zero => intro i s _; rw [loopR_zero]; simp
  | succ m ih =>
    intro i s hh
    have h1 := hh i s (Nat.le_refl _) (by omega)
    rw [Nat.succ_mul]
    rcases Bool.eq_false_or_eq_true (f i s).1 with t | t
    · rw [loopR_yes t]
      have := ih (i + 1) (f i s).2 (fun j s h2 h3 => hh j s (by omega) (by omega))
      omega
    · rw [loopR_no t]
      simp only
      omega
theorem nextR_mu {σ : Type} {ok : σ → List Int → Bool} {step : σ → List Int → σ} {μ : σ → Nat} (up : ∀ s xs, μ (step s xs) ≤ μ s + 1) (n k : Nat) : ∀ (d first : Nat) (xs : List Int) (s : σ), μ (nextR ok step n k d first xs s).2 ≤ μ s + (n + 1) ^ d := by
  intro d
  induction d with
  | zero =>
    intro first xs s
    have := up s xs
    unfold nextR
    split <;> simp <;> omega
  | succ d ih =>
    intro first xs s
    by_cases hk : xs.length = k
    · rw [nextR_yes ok step hk]
      have h1 := up s xs
      have h2 : 0 < (n + 1) ^ (d + 1) := Nat.pow_pos (by omega)
      simp only
      omega
    · rw [nextR_no ok step hk]
      have h1 := loopR_mu (f := fun i s => nextR ok step n k d (i + 1) (xs ++ [(i : Int)]) s) μ ((n + 1) ^ d) (n - first) first s (fun j s _ _ => ih (j + 1) _ s)
      have h2 : (n - first) * (n + 1) ^ d ≤ (n + 1) ^ (d + 1) := by
        rw [Nat.pow_succ, Nat.mul_comm]
        exact Nat.mul_le_mul_left _ (by omega)
      omega

set_option maxRecDepth 100000 in
set_option maxHeartbeats 4000000 in
theorem choicesG1_c {σ : Type} {ok : σ → List Int → Bool} {step : σ → List Int → σ} {V : σ → World → (Nat → Prop) → Prop} {pre : List Int → Prop} {μ : σ → Nat} {B : Nat} {h F : Nat} {caps : Array Value} (n k : Nat) (hn : n ≤ 1000) (hk : k ≤ 1000)
    (HV : VisG σ h F caps ok step V pre μ B) (hpre : ∀ xs : List Int, xs.length = k → (∀ x ∈ xs, 0 ≤ x ∧ x < (n : Int)) → xs.Pairwise (· < ·) → pre xs) :
    ∀ (d first : Nat) (xs : List Int) (lv : Value) (s : σ) (D : Nat → Prop) (w : World), n - first ≤ d → first ≤ n → xs.length ≤ first → (∀ x ∈ xs, 0 ≤ x ∧ x < (first : Int)) → xs.Pairwise (· < ·) → ChSt h n k F caps D w xs lv → V s w D → μ s + (n + 1) ^ d ≤ B →
      Calls Try.prog 89 #[.int .i64 first, .pointer (some ⟨h + 4, 0, none⟩), .pointer (some ⟨h + 1, 0, none⟩), .pointer (some ⟨h + 2, 0, none⟩), .pointer (some ⟨h, 0, none⟩), .pointer (some ⟨h + 5, 0, none⟩)] w
        (RetCh h n k F caps V D w xs (nextR ok step n k d first xs s)) := by
  intro d
  induction d with
  | zero =>
    intro first xs lv s D w hd hf hl hx hp hc hV hbu
    have HBU : Hid (μ s < B) := by show _ < _; rw [Nat.pow_zero] at hbu; omega
    clear hbu
    obtain rfl : first = n := by omega
    obtain ⟨al, ml, cl, rfl⟩ := hc.row.form3
    obtain rfl := fints_len3 hc.row
    have e1 := hc.bl.cell
    have e2 := hc.bk.cell
    have e3 := hc.bv.cell
    have e4 := hc.bn.cell
    have henter := HV.enter
    have HC := hid hc
    have HVV := hid hV
    have HX := hid (And.intro hx hp)
    clear hc hV hx hp
    by_cases t : xs.length = k
    · subst t
      have HP := hid (hpre xs rfl (fun x hx => by have := HX.out.1 x hx; omega) HX.out.2)
      have HR := hid (nextR_yes ok step (n := first) (d := 0) (first := first) (xs := xs) (s := s) rfl)
      go_enter Try.func89, Try.ntmps89
      go_wp2
      refine (HV.call s w D _ xs HVV.out HC.out.row.r HP.out (by have := HC.out.lt; omega) HBU.out).mono ?_
      rintro e w1 ⟨D1, rfl, hV1, hD1, hk1⟩
      have H1 := hid hV1
      clear hV1
      go_wp2
      go_ret
      exact ⟨D1, by rw [HR.out]; rfl, by rw [HR.out]; exact H1.out, hD1, hk1.mono (fun b _ h => h.2), fun _ => ⟨_, HC.out.step hk1 hD1⟩⟩
    · have tt := beq_nat_false t
      have HR := hid (nextR_end ok step (n := first) (first := first) (s := s) t (Nat.le_refl _) 0)
      go_enter Try.func89, Try.ntmps89
      go_wp2
      go_loopg [8] 0 (fun gk iv wr => gk = 0 ∧ iv = .int .i64 first ∧ wr = w)
      case atStart => exact ⟨rfl, rfl, rfl⟩
      case round =>
        obtain ⟨rfl, rfl, rfl⟩ := hrel
        go_wp2
        go_ret
        exact ⟨D, by rw [HR.out]; rfl, by rw [HR.out]; exact HVV.out, fun c hc => ⟨HC.out.dlt c hc, .inl hc⟩, KeepOn.refl _ _, fun _ => ⟨_, HC.out⟩⟩
  | succ d ih =>
    intro first xs lv s D w hd hf hl hx hp hc hV hbu
    have HBU : Hid (μ s < B) := by show _ < _; have : 0 < (n + 1) ^ (d + 1) := Nat.pow_pos (by omega); omega
    have HB0 := hid hbu
    clear hbu
    have IH := hid ih
    clear ih
    obtain ⟨al, ml, cl, rfl⟩ := hc.row.form3
    obtain rfl := fints_len3 hc.row
    have e1 := hc.bl.cell
    have e2 := hc.bk.cell
    have e3 := hc.bv.cell
    have henter := HV.enter
    have HC := hid hc
    have HVV := hid hV
    have HX := hid (And.intro hx hp)
    clear hc hV hx hp
    by_cases t : xs.length = k
    · subst t
      have HP := hid (hpre xs rfl (fun x hx => by have := HX.out.1 x hx; omega) HX.out.2)
      have HR := hid (nextR_yes ok step (n := n) (d := d + 1) (first := first) (xs := xs) (s := s) rfl)
      go_enter Try.func89, Try.ntmps89
      go_wp2
      refine (HV.call s w D _ xs HVV.out HC.out.row.r HP.out (by have := HC.out.lt; omega) HBU.out).mono ?_
      rintro e w1 ⟨D1, rfl, hV1, hD1, hk1⟩
      have H1 := hid hV1
      clear hV1
      go_wp2
      go_ret
      exact ⟨D1, by rw [HR.out]; rfl, by rw [HR.out]; exact H1.out, hD1, hk1.mono (fun b _ h => h.2), fun _ => ⟨_, HC.out.step hk1 hD1⟩⟩
    · have tt := beq_nat_false t
      have HR := hid (nextR_no ok step (n := n) (d := d) (first := first) (s := s) t)
      clear henter e3
      obtain ⟨f, hf'⟩ : ∃ f : Nat → σ → Bool × σ, f = fun i s => nextR ok step n k d (i + 1) (xs ++ [(i : Int)]) s := ⟨_, rfl⟩
      rw [← hf'] at HR
      have HFF : Hid (∀ i s, f i s = nextR ok step n k d (i + 1) (xs ++ [(i : Int)]) s) := fun i s => by rw [hf']
      clear hf'
      go_enter Try.func89, Try.ntmps89
      go_wp2
      clear e1 e2
      go_loopg [8] (n - first) (fun gk iv wr => ∃ i : Nat, ∃ s' : σ, ∃ D' : Nat → Prop, ∃ lv', first ≤ i ∧ i ≤ n ∧ gk = n - i ∧ iv = .int .i64 i ∧ nextR ok step n k (d + 1) first xs s = loopR f (n - i) i s' ∧ ChSt h n k F caps D' wr xs lv' ∧ V s' wr D' ∧ (∀ c, D' c → D c ∨ w.heap.size ≤ c) ∧ KeepOn (fun c => c < h ∧ ¬ D c) w wr ∧ μ s' ≤ μ s + (i - first) * (n + 1) ^ d)
      case atStart => exact ⟨first, s, D, _, Nat.le_refl _, hf, rfl, rfl, HR.out, HC.out, HVV.out, fun c hc => .inl hc, KeepOn.refl _ _, Nat.le_add_right _ _⟩
      case round =>
        obtain ⟨i, s1, D1, lv1, hi0, hi, rfl, rfl, hr, hc, hV, hD, hkp, hmu⟩ := hrel
        have HMU := hid hmu
        clear hmu
        have HRR := hid hr
        have HV1 := hid hV
        have HD1 := hid hD
        have HKP := hid hkp
        have HC1 := hid hc
        have e4 := hc.bn.cell
        clear hr hV hD hkp
        by_cases hlt : i < n
        · have hpw : (i - first) * (n + 1) ^ d + (n + 1) ^ d ≤ (n + 1) ^ (d + 1) := by
            rw [Nat.pow_succ, Nat.mul_comm _ (n + 1), ← Nat.succ_mul]
            exact Nat.mul_le_mul_right _ (by omega)
          have HBI : Hid (μ s1 + (n + 1) ^ d ≤ B) := by show _ ≤ _; have h1 := HMU.out; have h2 := HB0.out; omega
          have HMN : Hid (μ (f i s1).2 ≤ μ s + (i + 1 - first) * (n + 1) ^ d) := by
            show _ ≤ _
            have h1 := HMU.out
            have h2 := nextR_mu (ok := ok) HV.up n k d (i + 1) (xs ++ [(i : Int)]) s1
            rw [← HFF.out i s1] at h2
            rw [show i + 1 - first = (i - first) + 1 by omega, Nat.succ_mul]
            omega
          clear hpw
          obtain ⟨a1, m1, c1, rfl⟩ := hc.row.form3
          obtain rfl := fints_len3 hc.row
          have e1 := hc.bl.cell
          have hF0 := hc.row.keep ((Below.refl _ _).alloc (Nat.le_refl _) (.cells #[.int .i64 (i : Int)] 3))
          have hcn := cell_new wr (.int .i64 (i : Int)) 3
          have hlo : h + 3 ≤ (wr.alloc (.cells #[.int .i64 (i : Int)] 3)).heap.size := by have := hc.lt; simp; omega
          have hlt' : (i : Int) < (n : Int) := by omega
          have HXI := hid (show (∀ x ∈ xs ++ [(i : Int)], 0 ≤ x ∧ x < ((i + 1 : Nat) : Int)) ∧ (xs ++ [(i : Int)]).Pairwise (· < ·) from ⟨fun x hx => by
            rcases List.mem_append.1 hx with h1 | h1
            · have := HX.out.1 x h1; omega
            · simp at h1; omega, by
            rw [List.pairwise_append]
            refine ⟨HX.out.2, by simp, fun a ha b hb => ?_⟩
            simp at hb
            have := HX.out.1 a ha; omega⟩)
          clear hc
          go_wp2_with (at_builtin; refine wpList_push_int rfl _ _ rfl (h + 3) _ _ xs (i : Int) _ rfl rfl hF0 hcn (by omega) hlo ?_; intro g1 cap1 w1 hF1 hg1 hat1; obtain ⟨⟨hb1, hb2⟩, hb3, hb4⟩ := HC1.out.push hF1 hg1 (hat1.imp id (fun e => by simpa using e)); have hc1 := hb1.cell; have hf1 := hb1.frozen; have HB3 := hid hb3; have HB4 := hid hb4; clear hb1 hb3 hb4 hF1 hg1 hat1)
          have hnum : ((i + 1 : Nat) : Int) = (i : Int) + 1 := by omega
          have hcall := IH.out (i + 1) (xs ++ [(i : Int)]) _ s1 D1 _ (by omega) (by omega) (by simp; omega) HXI.out.1 HXI.out.2 HB3.out (HV.frame _ _ _ _ HV1.out HB4.out) HBI.out
          rw [hnum, ← HFF.out i s1] at hcall
          clear hnum
          refine hcall.mono ?_
          clear hcall
          rintro e w3 ⟨D3, rfl, hV3, hD3, hk3, hc3⟩
          have hsw : w.heap.size ≤ wr.heap.size := HKP.out.size
          have hDD : ∀ c, D3 c → D c ∨ w.heap.size ≤ c := fun c hc => by
            rcases (hD3 c hc).2 with h1 | h1
            · exact HD1.out c h1
            · have := HB4.out.size; omega
          have hkk : KeepOn (fun c => c < h ∧ ¬ D c) w w3 := (HKP.out.trans (HB4.out.mono (fun b _ hb => .inl hb.1))).trans (hk3.mono (fun b _ hb => ⟨hb.1, fun hd => by
            rcases HD1.out b hd with h1 | h1
            · exact hb.2 h1
            · have := HC.out.lt; omega⟩))
          rcases Bool.eq_false_or_eq_true (f i s1).1 with t3 | t3
          · rw [t3]
            obtain ⟨lv3, hc3⟩ := hc3 t3
            obtain ⟨g3, c3, rfl⟩ := fints_pos hc3.row (by simp)
            have hl3 : (xs ++ [(i : Int)]).length = xs.length + 1 := by simp
            rw [hl3] at hc3
            have e5 := hc3.bl.cell
            have f5 := hc3.bl.frozen
            have hcap : xs.length + 1 ≤ c3 := by
              obtain ⟨a', c', hv, hle, _⟩ := hc3.row.r
              simp only [Value.slice.injEq] at hv
              rw [← hv.2.2, hl3] at hle; exact hle
            obtain ⟨hp1, hp2⟩ := hc3.pop
            have HP1 := hid hp1
            have HV4 := hid (HV.frame _ _ _ _ hV3 hp2)
            have HDD := hid hDD
            have HKK := hid (hkk.trans (hp2.mono (fun b _ hb => .inl hb.1)))
            have HL : Hid (nextR ok step n k (d + 1) first xs s = loopR f (n - (i + 1)) (i + 1) (f i s1).2) := by
              show _ = _
              rw [HRR.out, show n - i = (n - (i + 1)) + 1 by omega, loopR_yes t3]
            have f6 : IntKind.i64.wrap (((xs.length + 1 : Nat) : Int) - 1) = (xs.length : Int) := by rw [IntWalk.i64_in _ (by omega)]; omega
            have hcapz : (xs.length : Int) ≤ (c3 : Int) := by omega
            clear hc3 hp1 hp2 hV3 hDD hkk hD3 hk3 hl3 hb2 hc1 hf1 e4
            go_wp2
            go_roundg (n - (i + 1))
            case rel => exact ⟨i + 1, _, D3, _, by omega, by omega, rfl, by go_num, HL.out, HP1.out, HV4.out, HDD.out, HKK.out, HMN.out⟩
            case measure => omega
          · rw [t3]
            have HL : Hid (nextR ok step n k (d + 1) first xs s = (false, (f i s1).2)) := by
              show _ = _
              rw [HRR.out, show n - i = (n - (i + 1)) + 1 by omega, loopR_no t3]
            have HV3 := hid hV3
            have HDD := hid (fun c hc => And.intro (hD3 c hc).1 (hDD c hc))
            have HKK := hid hkk
            clear hc3 hV3 hDD hkk hD3 hk3 hb2 hc1 hf1 e4
            go_wp2
            go_ret
            exact ⟨D3, by rw [HL.out]; rfl, by rw [HL.out]; exact HV3.out, HDD.out, HKK.out, fun hh => by rw [HL.out] at hh; cases hh⟩
        · obtain rfl : i = n := by omega
          have HL : Hid (nextR ok step i k (d + 1) first xs s = (true, s1)) := by show _ = _; rw [HRR.out, Nat.sub_self, loopR_zero]
          clear hc
          go_wp2
          go_ret
          exact ⟨D1, by rw [HL.out]; rfl, by rw [HL.out]; exact HV1.out, fun c hc => ⟨HC1.out.dlt c hc, HD1.out c hc⟩, HKP.out, fun _ => ⟨_, HC1.out⟩⟩

set_option maxRecDepth 100000 in
set_option maxHeartbeats 2000000 in
theorem choicesG_c {σ : Type} {ok : σ → List Int → Bool} {step : σ → List Int → σ} {V : σ → World → (Nat → Prop) → Prop} {pre : List Int → Prop} {μ : σ → Nat} {B : Nat} {F : Nat} {caps : Array Value} (n k : Nat) (hn : n ≤ 1000) (hk : k ≤ 1000) (s : σ) (D : Nat → Prop) (w : World)
    (HV : VisG σ w.heap.size F caps ok step V pre μ B) (hpre : ∀ xs : List Int, xs.length = k → (∀ x ∈ xs, 0 ≤ x ∧ x < (n : Int)) → xs.Pairwise (· < ·) → pre xs) (hV : V s w D) (hD : ∀ b, D b → b < w.heap.size) (hbu : μ s + (n + 1) ^ n ≤ B) :
    Calls Try.prog 57 #[.int .i64 n, .int .i64 k, .func (.func F) #[] caps] w (RetV V D w (nextR ok step n k n 0 [] s).1 (nextR ok step n k n 0 [] s).2) := by
  have HVV := hid hV
  have HBU := hid hbu
  clear hV hbu
  go_enter Try.func57, Try.ntmps57
  go_wp2_with fail
  obtain ⟨hc, hb⟩ := ch_start w n k F caps D hD
  have HC := hid hc
  have HB := hid hb
  clear hc hb
  refine (choicesG1_c n k hn hk HV hpre n 0 [] _ s D _ (by omega) (Nat.zero_le _) (Nat.zero_le _) (by simp) List.Pairwise.nil HC.out (HV.frame _ _ _ _ HVV.out (KeepOn.of_below HB.out)) HBU.out).mono ?_
  rintro e w1 ⟨D1, rfl, hV1, hD1, hk1, _⟩
  have H1 := hid hV1
  have HD1 := hid (show ∀ c, D1 c → c < w1.heap.size ∧ (D c ∨ w.heap.size ≤ c) from fun c hc => ⟨(hD1 c hc).1, by
    rcases (hD1 c hc).2 with h1 | h1
    · exact .inl h1
    · have := HB.out.size; exact .inr (by omega)⟩)
  have HK1 := hid (show KeepOn (fun c => ¬ D c) w w1 from ⟨hk1.os.trans HB.out.os, hk1.tape.trans HB.out.tape, hk1.output.trans HB.out.output, Nat.le_trans HB.out.size hk1.size, fun b hb hd => (hk1.block b (Nat.lt_of_lt_of_le hb HB.out.size) ⟨hb, hd⟩).trans (HB.out.block b hb)⟩)
  clear hV1 hD1 hk1
  go_wp2
  go_ret
  exact ⟨D1, rfl, H1.out, HD1.out, HK1.out⟩

end Go.Proofs.Ytcgcgmlonhganaa
