/- Lists and matrices of functions; graphs read out of links. -/
import Derived.Test.YtifdhapaonideaaFm
import Derived.Test.YtifdhapaonideaaGood
import Derived.Test.YtifdhapaonideaaChip
import Derived.Test.YtifdhapaonideaaChipB
namespace Go.Proofs.Ytifdhapaonideaa
open Go.RowKit
open Go.Lib (hid)

/-- f 0, f 1, .., f (n-1) -/
def lst (n : Nat) (f : Nat → Int) : List Int := (List.range n).map f
theorem lst_len (n : Nat) (f : Nat → Int) : (lst n f).length = n := by simp [lst]
theorem lst_at {n i : Nat} (f : Nat → Int) (h : i < n) : (lst n f).getD i 0 = f i := by simp [lst, List.getD, h]
theorem lst_congr {n : Nat} {f g : Nat → Int} (h : ∀ i, i < n → f i = g i) : lst n f = lst n g := by
  unfold lst; apply List.map_congr_left; intro i hi; exact h i (List.mem_range.1 hi)
theorem lst_inj {n : Nat} {f g : Nat → Int} (h : lst n f = lst n g) : ∀ i, i < n → f i = g i := fun i hi => by rw [← lst_at f hi, ← lst_at g hi, h]
theorem lst_of {l : List Int} {n : Nat} (h : l.length = n) : l = lst n (fun i => l.getD i 0) := by
  subst h
  apply List.ext_getElem
  · rw [lst_len]
  · intro i h1 h2; simp [lst, List.getD, h1]
def upd (f : Nat → Int) (i : Nat) (x : Int) : Nat → Int := fun j => if j = i then x else f j
theorem upd_self (f : Nat → Int) (i : Nat) (x : Int) : upd f i x i = x := by simp [upd]
theorem upd_other (f : Nat → Int) {i j : Nat} (x : Int) (h : j ≠ i) : upd f i x j = f j := by simp [upd, h]
theorem lst_set {n i : Nat} (f : Nat → Int) (x : Int) : (lst n f).set i x = lst n (upd f i x) := by
  apply List.ext_getElem
  · simp [lst]
  · intro j h1 h2
    simp only [lst, List.getElem_set, List.getElem_map, List.getElem_range, upd]
    by_cases e : i = j
    · subst e; simp
    · rw [if_neg e, if_neg (fun h => e h.symm)]
theorem lst_take (n k : Nat) (f : Nat → Int) (h : k ≤ n) : (lst n f).take k = lst k f := by
  apply List.ext_getElem
  · simp [lst]; omega
  · intro j h1 h2; simp [lst]
theorem lst_succ (n : Nat) (f : Nat → Int) : lst (n + 1) f = lst n f ++ [f n] := by simp [lst, List.range_succ]
theorem lst_zero (f : Nat → Int) : lst 0 f = [] := rfl
theorem mem_lst {n : Nat} {f : Nat → Int} {x : Int} : x ∈ lst n f ↔ ∃ i, i < n ∧ f i = x := by simp [lst]

def mat (n : Nat) (m : Nat → Nat → Int) : List (List Int) := (List.range n).map fun v => lst n (m v)
theorem mat_len (n : Nat) (m : Nat → Nat → Int) : (mat n m).length = n := by simp [mat]
theorem mat_row {n v : Nat} (m : Nat → Nat → Int) (h : v < n) : (mat n m).getD v [] = lst n (m v) := by simp [mat, List.getD, h]
theorem mat_sq (n : Nat) (m : Nat → Nat → Int) : sqB (mat n m) n = true := by
  rw [sqB, List.all_eq_true]
  intro r hr
  obtain ⟨v, _, rfl⟩ := List.mem_map.1 hr
  simp [lst_len]
theorem mat_ent {n v u : Nat} (m : Nat → Nat → Int) (h : v < n) (h' : u < n) : ent (mat n m) v u = m v u := by unfold ent; rw [mat_row m h, lst_at _ h']
def upd2 (m : Nat → Nat → Int) (i j : Nat) (x : Int) : Nat → Nat → Int := fun v u => if v = i ∧ u = j then x else m v u
theorem mat_ext {M : List (List Int)} {n : Nat} {m : Nat → Nat → Int} (hl : M.length = n) (hs : sqB M n = true) (h : ∀ v u, v < n → u < n → ent M v u = m v u) : M = mat n m := by
  apply List.ext_getElem
  · rw [mat_len, hl]
  · intro v h1 h2
    have hv : v < n := by omega
    have hr := sqB_len hs h1
    have e : M.getD v [] = M[v] := by simp [List.getD, h1]
    rw [e] at hr
    have e2 : (mat n m)[v] = lst n (m v) := by simp [mat]
    rw [e2]
    apply List.ext_getElem
    · rw [hr, lst_len]
    · intro u h3 h4
      have hu : u < n := by omega
      have := h v u hv hu
      unfold ent at this
      rw [e] at this
      simp [List.getD, h3] at this
      rw [this]; simp [lst]
theorem mat_set {n i j : Nat} (m : Nat → Nat → Int) (x : Int) (hi : i < n) (hj : j < n) : setEnt (mat n m) i j x = mat n (upd2 m i j x) := by
  refine mat_ext (by rw [setEnt_len, mat_len]) (setEnt_sq (mat_sq n m) (mat_len n m) hi _ _) fun v u hv hu => ?_
  rw [ent_setEnt (mat_sq n m) (mat_len n m) hi hj, mat_ent m hv hu]; rfl
theorem mat_congr {n : Nat} {m m' : Nat → Nat → Int} (h : ∀ v u, v < n → u < n → m v u = m' v u) : mat n m = mat n m' := by
  unfold mat; apply List.map_congr_left; intro v hv; exact lst_congr (fun u hu => h v u (List.mem_range.1 hv) hu)

/-- an own slice at every index -/
theorem fi_open {w : World} {lo hi g n cap : Nat} {f : Nat → Int} (h : FInts w lo hi (.slice (some ⟨g, 0, none⟩) n cap) (lst n f)) :
    (∀ i, i < n → w.cell? ⟨g, i, none⟩ = some (.int .i64 (f i)) ∧ w.frozen? ⟨g, i, none⟩ = false) ∧ (0 < n → lo ≤ g ∧ g < hi) ∧
      ∀ i y, i < n → FInts (w.setCell ⟨g, i, none⟩ (.int .i64 y)) lo hi (.slice (some ⟨g, 0, none⟩) n cap) (lst n (upd f i y)) ∧ Touch lo hi w (w.setCell ⟨g, i, none⟩ (.int .i64 y)) := by
  refine ⟨fun i hi' => ?_, fun hn => ?_, fun i y hi' => ?_⟩
  · obtain ⟨g', x, he, _, _, hc, hf, HX⟩ := h.at (i := i) (by rw [lst_len]; exact hi')
    simp only [Option.some.injEq, Addr.mk.injEq, and_true] at he
    subst he
    have := HX.out
    rw [lst_at f hi'] at this
    rw [this]; exact ⟨hc, hf⟩
  · obtain ⟨g', x, he, h1, h2, _⟩ := h.at (i := 0) (by rw [lst_len]; exact hn)
    simp only [Option.some.injEq, Addr.mk.injEq, and_true] at he
    subst he
    exact ⟨h1, h2⟩
  · obtain ⟨g', x, he, h1, h2, _⟩ := h.at (i := i) (by rw [lst_len]; exact hi')
    simp only [Option.some.injEq, Addr.mk.injEq, and_true] at he
    subst he
    obtain ⟨k1, k2, _⟩ := h.set i y
    rw [lst_set f y] at k1
    exact ⟨k1, Touch.of_grown k2 (fun k hk => by cases hk; exact ⟨h1, h2⟩)⟩
theorem fi_form {w : World} {lo hi n : Nat} {v : Value} {f : Nat → Int} (h : FInts w lo hi v (lst n f)) (hn : 0 < n) : ∃ g cap, v = .slice (some ⟨g, 0, none⟩) n cap ∧ lo ≤ g ∧ g < hi := by
  obtain ⟨a, cap, rfl⟩ := h.form
  obtain ⟨g, _, rfl, h1, h2, _⟩ := h.at (i := 0) (by rw [lst_len]; exact hn)
  exact ⟨g, cap, by rw [lst_len], h1, h2⟩
theorem ri_open {w : World} {v : Value} {n : Nat} {f : Nat → Int} (h : RInts w v (lst n f)) (hn : 0 < n) : ∃ g o cap, v = .slice (some ⟨g, o, none⟩) n cap ∧ n ≤ cap ∧ cap ≤ 9223372036854775807 ∧ ∀ i, i < n → w.cell? ⟨g, o + i, none⟩ = some (.int .i64 (f i)) := by
  obtain ⟨a, cap, rfl, h1, h2, hc⟩ := h
  rw [lst_len] at h1
  obtain ⟨g, o, rfl, _⟩ := hc 0 (by rw [lst_len]; exact hn)
  refine ⟨g, o, cap, by rw [lst_len], h1, by unfold maxLen at h2; omega, fun i hi => ?_⟩
  obtain ⟨g', o', he, hcell⟩ := hc i (by rw [lst_len]; exact hi)
  simp only [Option.some.injEq, Addr.mk.injEq, and_true] at he
  obtain ⟨rfl, rfl⟩ := he
  rw [hcell, lst_at f hi]
theorem rm_open {w : World} {v : Value} {n : Nat} {m : Nat → Nat → Int} (h : RMat w v (mat n m)) (hn : 0 < n) :
    ∃ (g o cap : Nat) (G O C : Nat → Nat), v = .slice (some ⟨g, o, none⟩) n cap ∧ n ≤ cap ∧ cap ≤ 9223372036854775807 ∧
      (∀ i, i < n → w.cell? ⟨g, o + i, none⟩ = some (.slice (some ⟨G i, O i, none⟩) n (C i))) ∧ ∀ i j, i < n → j < n → w.cell? ⟨G i, O i + j, none⟩ = some (.int .i64 (m i j)) := by
  obtain ⟨g, o, cap, G, O, C, h1, h2, h3, h4, h5⟩ := sq_open h hn (mat_len n m) (mat_sq n m)
  exact ⟨g, o, cap, G, O, C, h1, h2, h3, h4, fun i j hi hj => by rw [h5 i j hi hj, mat_ent m hi hj]⟩

/-! ### Good links -/
/-- the links of a graph of n vertices -/
structure GoodL (n : Nat) (L : List Lnk) : Prop where
  n1 : 1 ≤ n
  n8 : n ≤ 8
  each : ∀ x ∈ L, 0 ≤ x.a ∧ x.a < x.b ∧ x.b < n ∧ 1 ≤ x.n ∧ x.n ≤ 5
  sorted : L.Pairwise fun y x => aheadB y x = true
theorem aheadB_iff {y x : Lnk} : aheadB y x = true ↔ y.a < x.a ∨ y.a = x.a ∧ y.b < x.b := by simp [aheadB]
theorem goodL_all {n : Int} : ∀ (L : List Lnk) (p : Option Lnk), goodL n p L = true → (∀ x ∈ L, lnkB n x = true) ∧ (L.Pairwise fun y x => aheadB y x = true) ∧ ∀ y, p = some y → ∀ x ∈ L, aheadB y x = true
  | [], _, _ => ⟨by simp, .nil, by simp⟩
  | x :: xs, p, h => by
    rw [goodL_cons] at h
    simp only [Bool.and_eq_true] at h
    obtain ⟨h1, h2, h3⟩ := h
    obtain ⟨k1, k2, k3⟩ := goodL_all xs (some x) h3
    refine ⟨fun z hz => ?_, List.Pairwise.cons (k3 x rfl) k2, fun y hy z hz => ?_⟩
    · rcases List.mem_cons.1 hz with rfl | hz
      · exact h1
      · exact k1 z hz
    · subst hy
      rcases List.mem_cons.1 hz with rfl | hz
      · exact h2
      · have a1 := aheadB_iff.1 h2
        have a2 := aheadB_iff.1 (k3 x rfl z hz)
        exact aheadB_iff.2 (by omega)
theorem goodG_parts {n : Int} {L : List Lnk} (h : goodG n L = true) : GoodL n.toNat L ∧ n = (n.toNat : Int) := by
  unfold goodG at h
  simp only [Bool.and_eq_true] at h
  obtain ⟨h1, h2⟩ := h
  obtain ⟨b1, b2⟩ := inB_iff.1 h1
  obtain ⟨k1, k2, _⟩ := goodL_all L none h2
  refine ⟨⟨by omega, by omega, fun x hx => ?_, k2⟩, by omega⟩
  have := k1 x hx
  unfold lnkB at this
  simp only [Bool.and_eq_true] at this
  obtain ⟨⟨c1, c2⟩, c3⟩ := this
  have := inB_iff.1 c1; have := inB_iff.1 c2; have := inB_iff.1 c3
  omega

/-- the edges of links between two vertices -/
def isLnk (u v : Nat) (x : Lnk) : Bool := (x.a == (u : Int) && x.b == (v : Int)) || (x.a == (v : Int) && x.b == (u : Int))
def mulL (L : List Lnk) (u v : Nat) : Int := (L.map fun x => if isLnk u v x then x.n else 0).sum
theorem isLnk_iff {u v : Nat} {x : Lnk} : isLnk u v x = true ↔ (x.a = u ∧ x.b = v) ∨ (x.a = v ∧ x.b = u) := by simp [isLnk]
theorem mulL_cons (x : Lnk) (L : List Lnk) (u v : Nat) : mulL (x :: L) u v = (if isLnk u v x then x.n else 0) + mulL L u v := by simp [mulL]
theorem mulL_sym (L : List Lnk) (u v : Nat) : mulL L u v = mulL L v u := by
  unfold mulL
  congr 1
  apply List.map_congr_left
  intro x _
  have : isLnk u v x = isLnk v u x := by unfold isLnk; rw [Bool.or_comm]
  rw [this]
theorem mulL_none {L : List Lnk} {u v : Nat} (h : ∀ x ∈ L, isLnk u v x = false) : mulL L u v = 0 := by
  induction L with
  | nil => rfl
  | cons x xs ih => rw [mulL_cons, h x (by simp), ih (fun y hy => h y (by simp [hy]))]; simp
theorem mulL_bound {n : Nat} {L : List Lnk} (he : ∀ x ∈ L, 0 ≤ x.a ∧ x.a < x.b ∧ x.b < n ∧ 1 ≤ x.n ∧ x.n ≤ 5) (hp : L.Pairwise fun y x => aheadB y x = true) (u v : Nat) : 0 ≤ mulL L u v ∧ mulL L u v ≤ 5 := by
  induction L with
  | nil => simp [mulL]
  | cons x xs ih =>
    rw [mulL_cons]
    rw [List.pairwise_cons] at hp
    have hx := he x (by simp)
    have ih := ih (fun y hy => he y (by simp [hy])) hp.2
    by_cases hl : isLnk u v x = true
    · rw [if_pos hl, mulL_none (L := xs)]
      · omega
      · intro y hy
        cases hly : isLnk u v y with
        | false => rfl
        | true =>
          have a := isLnk_iff.1 hl
          have b := isLnk_iff.1 hly
          have c := aheadB_iff.1 (hp.1 y hy)
          have d := he y (by simp [hy])
          omega
    · rw [if_neg hl]; omega
/-- the graph of links -/
def grL (n : Nat) (L : List Lnk) (h : GoodL n L) : Gr where
  n := n
  m := mulL L
  sym := mulL_sym L
  pos := fun u v => (mulL_bound h.each h.sorted u v).1
  irr := fun v => mulL_none fun x hx => by
    have := h.each x hx
    cases hl : isLnk v v x with
    | false => rfl
    | true => have := isLnk_iff.1 hl; omega
  up := fun u v => (mulL_bound h.each h.sorted u v).2
  n8 := h.n8

end Go.Proofs.Ytifdhapaonideaa
