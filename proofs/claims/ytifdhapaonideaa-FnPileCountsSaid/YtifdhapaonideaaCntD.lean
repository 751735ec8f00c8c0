/- Determinants of graphs' matrices, plain: they obey the recursion of the recurrent piles. -/
import Derived.Test.YtifdhapaonideaaCntA
namespace Go.Proofs.Ytifdhapaonideaa

def sgnN (k : Nat) : Int := if k % 2 = 0 then 1 else -1
/-- the determinant by the first row -/
def detN : Nat → List (List Int) → Int
  | 0, _ => 1
  | n + 1, M => sumN (M.headD []).length fun k => sgnN k * (M.headD []).getD k 0 * detN n (M.tail.map fun r => r.eraseIdx k)
theorem det1 (a : Int) : detN 1 [[a]] = a := by simp [detN, sumN, sgnN]
theorem det2 (a b c d : Int) : detN 2 [[a, b], [c, d]] = a * d - b * c := by
  simp [detN, sumN, sgnN, List.eraseIdx]; grind
theorem det3 (a b c d e f g h i : Int) : detN 3 [[a, b, c], [d, e, f], [g, h, i]] = a * (e * i - f * h) - b * (d * i - f * g) + c * (d * h - e * g) := by
  simp [detN, sumN, sgnN, List.eraseIdx]; grind
theorem det4 (a b c d e f g h i j k l m n o p : Int) : detN 4 [[a, b, c, d], [e, f, g, h], [i, j, k, l], [m, n, o, p]] =
    a * (f * (k * p - l * o) - g * (j * p - l * n) + h * (j * o - k * n)) - b * (e * (k * p - l * o) - g * (i * p - l * m) + h * (i * o - k * m))
    + c * (e * (j * p - l * n) - f * (i * p - l * m) + h * (i * n - j * m)) - d * (e * (j * o - k * n) - f * (i * o - k * m) + g * (i * n - j * m)) := by
  simp [detN, sumN, sgnN, List.eraseIdx]; grind

/-- the matrix of a graph without its sink; b: the edges to the sink -/
def lapD (m : Nat → Nat → Int) (A : List Nat) (b : Nat → Int) : List (List Int) := A.map fun v => A.map fun u => if u = v then sL A (m v) + b v else - m v u
def detF (m : Nat → Nat → Int) (A : List Nat) (b : Nat → Int) : Int := detN A.length (lapD m A b)

theorem four_cases {A : List Nat} (h : A.length ≤ 4) : A = [] ∨ (∃ a, A = [a]) ∨ (∃ a b, A = [a, b]) ∨ (∃ a b c, A = [a, b, c]) ∨ (∃ a b c d, A = [a, b, c, d]) := by
  match A, h with
  | [], _ => exact .inl rfl
  | [a], _ => exact .inr (.inl ⟨a, rfl⟩)
  | [a, b], _ => exact .inr (.inr (.inl ⟨a, b, rfl⟩))
  | [a, b, c], _ => exact .inr (.inr (.inr (.inl ⟨a, b, c, rfl⟩)))
  | [a, b, c, d], _ => exact .inr (.inr (.inr (.inr ⟨a, b, c, d, rfl⟩)))
  | _ :: _ :: _ :: _ :: _ :: _, h => simp at h

/-- the determinant of a matrix of entries at some vertices -/
def detE (E : Nat → Nat → Int) (A : List Nat) : Int := detN A.length (A.map fun v => A.map (E v))
theorem lin2 (a b c d : Int) : (a + 1) * d - b * c = (a * d - b * c) + d := by grind
theorem detE_zero {E : Nat → Nat → Int} {A : List Nat} (hne : A ≠ []) (hl : A.length ≤ 4) (hz : ∀ v ∈ A, sL A (E v) = 0) : detE E A = 0 := by
  rcases four_cases hl with rfl | ⟨x, rfl⟩ | ⟨x, y, rfl⟩ | ⟨x, y, z, rfl⟩ | ⟨x, y, z, w, rfl⟩
  · exact (hne rfl).elim
  · have h1 := hz x (by simp)
    simp only [sL] at h1
    show detN 1 [[E x x]] = 0
    rw [det1]; omega
  · have h1 := hz x (by simp)
    have h2 := hz y (by simp)
    simp only [sL] at h1 h2
    show detN 2 [[E x x, E x y], [E y x, E y y]] = 0
    rw [det2, show E x x = - E x y by omega, show E y y = - E y x by omega]; clear h1 h2 hz hl hne; generalize E x y = a; generalize E y x = b; grind
  · have h1 := hz x (by simp)
    have h2 := hz y (by simp)
    have h3 := hz z (by simp)
    simp only [sL] at h1 h2 h3
    show detN 3 [[E x x, E x y, E x z], [E y x, E y y, E y z], [E z x, E z y, E z z]] = 0
    rw [det3, show E x x = - E x y - E x z by omega, show E y y = - E y x - E y z by omega, show E z z = - E z x - E z y by omega]
    clear h1 h2 h3 hz hl hne
    generalize E x y = a; generalize E x z = b; generalize E y x = c; generalize E y z = d; generalize E z x = e; generalize E z y = f
    grind
  · have h1 := hz x (by simp)
    have h2 := hz y (by simp)
    have h3 := hz z (by simp)
    have h4 := hz w (by simp)
    simp only [sL] at h1 h2 h3 h4
    show detN 4 [[E x x, E x y, E x z, E x w], [E y x, E y y, E y z, E y w], [E z x, E z y, E z z, E z w], [E w x, E w y, E w z, E w w]] = 0
    rw [det4, show E x x = - E x y - E x z - E x w by omega, show E y y = - E y x - E y z - E y w by omega, show E z z = - E z x - E z y - E z w by omega, show E w w = - E w x - E w y - E w z by omega]
    clear h1 h2 h3 h4 hz hl hne
    generalize E x y = a; generalize E x z = b; generalize E x w = c; generalize E y x = d; generalize E y z = e; generalize E y w = f
    generalize E z x = g; generalize E z y = h; generalize E z w = i; generalize E w x = j; generalize E w y = k; generalize E w z = l
    grind

def more1 (E : Nat → Nat → Int) (x : Nat) : Nat → Nat → Int := fun v u => if v = x ∧ u = x then E x x + 1 else E v u
theorem inc1x (Exx : Int) : detN 1 [[(Exx + 1)]] = detN 1 [[Exx]] + 1 := by
  rw [det1, det1]
theorem inc2x (Exx Exy Eyx Eyy : Int) : detN 2 [[(Exx + 1), Exy], [Eyx, Eyy]] = detN 2 [[Exx, Exy], [Eyx, Eyy]] + detN 1 [[Eyy]] := by
  rw [det2, det2, det1]; grind
theorem inc2y (Exx Exy Eyx Eyy : Int) : detN 2 [[Exx, Exy], [Eyx, (Eyy + 1)]] = detN 2 [[Exx, Exy], [Eyx, Eyy]] + detN 1 [[Exx]] := by
  rw [det2, det2, det1]; grind
theorem inc3x (Exx Exy Exz Eyx Eyy Eyz Ezx Ezy Ezz : Int) : detN 3 [[(Exx + 1), Exy, Exz], [Eyx, Eyy, Eyz], [Ezx, Ezy, Ezz]] = detN 3 [[Exx, Exy, Exz], [Eyx, Eyy, Eyz], [Ezx, Ezy, Ezz]] + detN 2 [[Eyy, Eyz], [Ezy, Ezz]] := by
  rw [det3, det3, det2]; grind
theorem inc3y (Exx Exy Exz Eyx Eyy Eyz Ezx Ezy Ezz : Int) : detN 3 [[Exx, Exy, Exz], [Eyx, (Eyy + 1), Eyz], [Ezx, Ezy, Ezz]] = detN 3 [[Exx, Exy, Exz], [Eyx, Eyy, Eyz], [Ezx, Ezy, Ezz]] + detN 2 [[Exx, Exz], [Ezx, Ezz]] := by
  rw [det3, det3, det2]; grind
theorem inc3z (Exx Exy Exz Eyx Eyy Eyz Ezx Ezy Ezz : Int) : detN 3 [[Exx, Exy, Exz], [Eyx, Eyy, Eyz], [Ezx, Ezy, (Ezz + 1)]] = detN 3 [[Exx, Exy, Exz], [Eyx, Eyy, Eyz], [Ezx, Ezy, Ezz]] + detN 2 [[Exx, Exy], [Eyx, Eyy]] := by
  rw [det3, det3, det2]; grind
theorem inc4x (Exx Exy Exz Exw Eyx Eyy Eyz Eyw Ezx Ezy Ezz Ezw Ewx Ewy Ewz Eww : Int) : detN 4 [[(Exx + 1), Exy, Exz, Exw], [Eyx, Eyy, Eyz, Eyw], [Ezx, Ezy, Ezz, Ezw], [Ewx, Ewy, Ewz, Eww]] = detN 4 [[Exx, Exy, Exz, Exw], [Eyx, Eyy, Eyz, Eyw], [Ezx, Ezy, Ezz, Ezw], [Ewx, Ewy, Ewz, Eww]] + detN 3 [[Eyy, Eyz, Eyw], [Ezy, Ezz, Ezw], [Ewy, Ewz, Eww]] := by
  rw [det4, det4, det3]; grind
theorem inc4y (Exx Exy Exz Exw Eyx Eyy Eyz Eyw Ezx Ezy Ezz Ezw Ewx Ewy Ewz Eww : Int) : detN 4 [[Exx, Exy, Exz, Exw], [Eyx, (Eyy + 1), Eyz, Eyw], [Ezx, Ezy, Ezz, Ezw], [Ewx, Ewy, Ewz, Eww]] = detN 4 [[Exx, Exy, Exz, Exw], [Eyx, Eyy, Eyz, Eyw], [Ezx, Ezy, Ezz, Ezw], [Ewx, Ewy, Ewz, Eww]] + detN 3 [[Exx, Exz, Exw], [Ezx, Ezz, Ezw], [Ewx, Ewz, Eww]] := by
  rw [det4, det4, det3]; grind
theorem inc4z (Exx Exy Exz Exw Eyx Eyy Eyz Eyw Ezx Ezy Ezz Ezw Ewx Ewy Ewz Eww : Int) : detN 4 [[Exx, Exy, Exz, Exw], [Eyx, Eyy, Eyz, Eyw], [Ezx, Ezy, (Ezz + 1), Ezw], [Ewx, Ewy, Ewz, Eww]] = detN 4 [[Exx, Exy, Exz, Exw], [Eyx, Eyy, Eyz, Eyw], [Ezx, Ezy, Ezz, Ezw], [Ewx, Ewy, Ewz, Eww]] + detN 3 [[Exx, Exy, Exw], [Eyx, Eyy, Eyw], [Ewx, Ewy, Eww]] := by
  rw [det4, det4, det3]; grind
theorem inc4w (Exx Exy Exz Exw Eyx Eyy Eyz Eyw Ezx Ezy Ezz Ezw Ewx Ewy Ewz Eww : Int) : detN 4 [[Exx, Exy, Exz, Exw], [Eyx, Eyy, Eyz, Eyw], [Ezx, Ezy, Ezz, Ezw], [Ewx, Ewy, Ewz, (Eww + 1)]] = detN 4 [[Exx, Exy, Exz, Exw], [Eyx, Eyy, Eyz, Eyw], [Ezx, Ezy, Ezz, Ezw], [Ewx, Ewy, Ewz, Eww]] + detN 3 [[Exx, Exy, Exz], [Eyx, Eyy, Eyz], [Ezx, Ezy, Ezz]] := by
  rw [det4, det4, det3]; grind
theorem detE_step {E : Nat → Nat → Int} {A : List Nat} {v : Nat} (hn : A.Nodup) (hl : A.length ≤ 4) (hv : v ∈ A) : detE (more1 E v) A = detE E A + detE E (A.erase v) := by
  rcases four_cases hl with rfl | ⟨x, rfl⟩ | ⟨x, y, rfl⟩ | ⟨x, y, z, rfl⟩ | ⟨x, y, z, w, rfl⟩
  · simp at hv
  · simp only [List.mem_singleton] at hv
    subst hv
    show detN 1 [[more1 E v v v]] = detN 1 [[E v v]] + detE E ([v].erase v)
    rw [show more1 E v v v = E v v + 1 by simp [more1], inc1x]; simp [detE, detN]
  · simp only [List.nodup_cons, List.mem_cons, List.not_mem_nil, or_false, List.nodup_nil, not_false_eq_true, and_true] at hn hv
    have n1 := hn
    rcases hv with rfl | rfl
    · have he : [v, y].erase v = [y] := by simp []
      rw [he]
      show detN 2 [[more1 E v v v, more1 E v v y], [more1 E v y v, more1 E v y y]] = detN 2 [[E v v, E v y], [E y v, E y y]] + detN 1 [[E y y]]
      have e0 : more1 E v v v = E v v + 1 := by simp [more1]
      have evy : more1 E v v y = E v y := if_neg fun h => (Ne.symm n1) h.2
      have eyv : more1 E v y v = E y v := if_neg fun h => (Ne.symm n1) h.1
      have eyy : more1 E v y y = E y y := if_neg fun h => (Ne.symm n1) h.1
      rw [e0, evy, eyv, eyy, inc2x]
    · have he : [x, v].erase v = [x] := by simp [n1]
      rw [he]
      show detN 2 [[more1 E v x x, more1 E v x v], [more1 E v v x, more1 E v v v]] = detN 2 [[E x x, E x v], [E v x, E v v]] + detN 1 [[E x x]]
      have e0 : more1 E v v v = E v v + 1 := by simp [more1]
      have exx : more1 E v x x = E x x := if_neg fun h => n1 h.1
      have exv : more1 E v x v = E x v := if_neg fun h => n1 h.1
      have evx : more1 E v v x = E v x := if_neg fun h => n1 h.2
      rw [e0, exx, exv, evx, inc2y]
  · simp only [List.nodup_cons, List.mem_cons, List.not_mem_nil, or_false, not_or, List.nodup_nil, not_false_eq_true, and_true] at hn hv
    obtain ⟨⟨n1, n2⟩, n3⟩ := hn
    rcases hv with rfl | rfl | rfl
    · have he : [v, y, z].erase v = [y, z] := by simp []
      rw [he]
      show detN 3 [[more1 E v v v, more1 E v v y, more1 E v v z], [more1 E v y v, more1 E v y y, more1 E v y z], [more1 E v z v, more1 E v z y, more1 E v z z]] = detN 3 [[E v v, E v y, E v z], [E y v, E y y, E y z], [E z v, E z y, E z z]] + detN 2 [[E y y, E y z], [E z y, E z z]]
      have e0 : more1 E v v v = E v v + 1 := by simp [more1]
      have evy : more1 E v v y = E v y := if_neg fun h => (Ne.symm n1) h.2
      have evz : more1 E v v z = E v z := if_neg fun h => (Ne.symm n2) h.2
      have eyv : more1 E v y v = E y v := if_neg fun h => (Ne.symm n1) h.1
      have eyy : more1 E v y y = E y y := if_neg fun h => (Ne.symm n1) h.1
      have eyz : more1 E v y z = E y z := if_neg fun h => (Ne.symm n1) h.1
      have ezv : more1 E v z v = E z v := if_neg fun h => (Ne.symm n2) h.1
      have ezy : more1 E v z y = E z y := if_neg fun h => (Ne.symm n2) h.1
      have ezz : more1 E v z z = E z z := if_neg fun h => (Ne.symm n2) h.1
      rw [e0, evy, evz, eyv, eyy, eyz, ezv, ezy, ezz, inc3x]
    · have he : [x, v, z].erase v = [x, z] := by simp [n1]
      rw [he]
      show detN 3 [[more1 E v x x, more1 E v x v, more1 E v x z], [more1 E v v x, more1 E v v v, more1 E v v z], [more1 E v z x, more1 E v z v, more1 E v z z]] = detN 3 [[E x x, E x v, E x z], [E v x, E v v, E v z], [E z x, E z v, E z z]] + detN 2 [[E x x, E x z], [E z x, E z z]]
      have e0 : more1 E v v v = E v v + 1 := by simp [more1]
      have exx : more1 E v x x = E x x := if_neg fun h => n1 h.1
      have exv : more1 E v x v = E x v := if_neg fun h => n1 h.1
      have exz : more1 E v x z = E x z := if_neg fun h => n1 h.1
      have evx : more1 E v v x = E v x := if_neg fun h => n1 h.2
      have evz : more1 E v v z = E v z := if_neg fun h => (Ne.symm n3) h.2
      have ezx : more1 E v z x = E z x := if_neg fun h => (Ne.symm n3) h.1
      have ezv : more1 E v z v = E z v := if_neg fun h => (Ne.symm n3) h.1
      have ezz : more1 E v z z = E z z := if_neg fun h => (Ne.symm n3) h.1
      rw [e0, exx, exv, exz, evx, evz, ezx, ezv, ezz, inc3y]
    · have he : [x, y, v].erase v = [x, y] := by simp [n2, n3]
      rw [he]
      show detN 3 [[more1 E v x x, more1 E v x y, more1 E v x v], [more1 E v y x, more1 E v y y, more1 E v y v], [more1 E v v x, more1 E v v y, more1 E v v v]] = detN 3 [[E x x, E x y, E x v], [E y x, E y y, E y v], [E v x, E v y, E v v]] + detN 2 [[E x x, E x y], [E y x, E y y]]
      have e0 : more1 E v v v = E v v + 1 := by simp [more1]
      have exx : more1 E v x x = E x x := if_neg fun h => n2 h.1
      have exy : more1 E v x y = E x y := if_neg fun h => n2 h.1
      have exv : more1 E v x v = E x v := if_neg fun h => n2 h.1
      have eyx : more1 E v y x = E y x := if_neg fun h => n3 h.1
      have eyy : more1 E v y y = E y y := if_neg fun h => n3 h.1
      have eyv : more1 E v y v = E y v := if_neg fun h => n3 h.1
      have evx : more1 E v v x = E v x := if_neg fun h => n2 h.2
      have evy : more1 E v v y = E v y := if_neg fun h => n3 h.2
      rw [e0, exx, exy, exv, eyx, eyy, eyv, evx, evy, inc3z]
  · simp only [List.nodup_cons, List.mem_cons, List.not_mem_nil, or_false, not_or, List.nodup_nil, not_false_eq_true, and_true] at hn hv
    obtain ⟨⟨n1, n2, n3⟩, ⟨n4, n5⟩, n6⟩ := hn
    rcases hv with rfl | rfl | rfl | rfl
    · have he : [v, y, z, w].erase v = [y, z, w] := by simp []
      rw [he]
      show detN 4 [[more1 E v v v, more1 E v v y, more1 E v v z, more1 E v v w], [more1 E v y v, more1 E v y y, more1 E v y z, more1 E v y w], [more1 E v z v, more1 E v z y, more1 E v z z, more1 E v z w], [more1 E v w v, more1 E v w y, more1 E v w z, more1 E v w w]] = detN 4 [[E v v, E v y, E v z, E v w], [E y v, E y y, E y z, E y w], [E z v, E z y, E z z, E z w], [E w v, E w y, E w z, E w w]] + detN 3 [[E y y, E y z, E y w], [E z y, E z z, E z w], [E w y, E w z, E w w]]
      have e0 : more1 E v v v = E v v + 1 := by simp [more1]
      have evy : more1 E v v y = E v y := if_neg fun h => (Ne.symm n1) h.2
      have evz : more1 E v v z = E v z := if_neg fun h => (Ne.symm n2) h.2
      have evw : more1 E v v w = E v w := if_neg fun h => (Ne.symm n3) h.2
      have eyv : more1 E v y v = E y v := if_neg fun h => (Ne.symm n1) h.1
      have eyy : more1 E v y y = E y y := if_neg fun h => (Ne.symm n1) h.1
      have eyz : more1 E v y z = E y z := if_neg fun h => (Ne.symm n1) h.1
      have eyw : more1 E v y w = E y w := if_neg fun h => (Ne.symm n1) h.1
      have ezv : more1 E v z v = E z v := if_neg fun h => (Ne.symm n2) h.1
      have ezy : more1 E v z y = E z y := if_neg fun h => (Ne.symm n2) h.1
      have ezz : more1 E v z z = E z z := if_neg fun h => (Ne.symm n2) h.1
      have ezw : more1 E v z w = E z w := if_neg fun h => (Ne.symm n2) h.1
      have ewv : more1 E v w v = E w v := if_neg fun h => (Ne.symm n3) h.1
      have ewy : more1 E v w y = E w y := if_neg fun h => (Ne.symm n3) h.1
      have ewz : more1 E v w z = E w z := if_neg fun h => (Ne.symm n3) h.1
      have eww : more1 E v w w = E w w := if_neg fun h => (Ne.symm n3) h.1
      rw [e0, evy, evz, evw, eyv, eyy, eyz, eyw, ezv, ezy, ezz, ezw, ewv, ewy, ewz, eww, inc4x]
    · have he : [x, v, z, w].erase v = [x, z, w] := by simp [n1]
      rw [he]
      show detN 4 [[more1 E v x x, more1 E v x v, more1 E v x z, more1 E v x w], [more1 E v v x, more1 E v v v, more1 E v v z, more1 E v v w], [more1 E v z x, more1 E v z v, more1 E v z z, more1 E v z w], [more1 E v w x, more1 E v w v, more1 E v w z, more1 E v w w]] = detN 4 [[E x x, E x v, E x z, E x w], [E v x, E v v, E v z, E v w], [E z x, E z v, E z z, E z w], [E w x, E w v, E w z, E w w]] + detN 3 [[E x x, E x z, E x w], [E z x, E z z, E z w], [E w x, E w z, E w w]]
      have e0 : more1 E v v v = E v v + 1 := by simp [more1]
      have exx : more1 E v x x = E x x := if_neg fun h => n1 h.1
      have exv : more1 E v x v = E x v := if_neg fun h => n1 h.1
      have exz : more1 E v x z = E x z := if_neg fun h => n1 h.1
      have exw : more1 E v x w = E x w := if_neg fun h => n1 h.1
      have evx : more1 E v v x = E v x := if_neg fun h => n1 h.2
      have evz : more1 E v v z = E v z := if_neg fun h => (Ne.symm n4) h.2
      have evw : more1 E v v w = E v w := if_neg fun h => (Ne.symm n5) h.2
      have ezx : more1 E v z x = E z x := if_neg fun h => (Ne.symm n4) h.1
      have ezv : more1 E v z v = E z v := if_neg fun h => (Ne.symm n4) h.1
      have ezz : more1 E v z z = E z z := if_neg fun h => (Ne.symm n4) h.1
      have ezw : more1 E v z w = E z w := if_neg fun h => (Ne.symm n4) h.1
      have ewx : more1 E v w x = E w x := if_neg fun h => (Ne.symm n5) h.1
      have ewv : more1 E v w v = E w v := if_neg fun h => (Ne.symm n5) h.1
      have ewz : more1 E v w z = E w z := if_neg fun h => (Ne.symm n5) h.1
      have eww : more1 E v w w = E w w := if_neg fun h => (Ne.symm n5) h.1
      rw [e0, exx, exv, exz, exw, evx, evz, evw, ezx, ezv, ezz, ezw, ewx, ewv, ewz, eww, inc4y]
    · have he : [x, y, v, w].erase v = [x, y, w] := by simp [n2, n4]
      rw [he]
      show detN 4 [[more1 E v x x, more1 E v x y, more1 E v x v, more1 E v x w], [more1 E v y x, more1 E v y y, more1 E v y v, more1 E v y w], [more1 E v v x, more1 E v v y, more1 E v v v, more1 E v v w], [more1 E v w x, more1 E v w y, more1 E v w v, more1 E v w w]] = detN 4 [[E x x, E x y, E x v, E x w], [E y x, E y y, E y v, E y w], [E v x, E v y, E v v, E v w], [E w x, E w y, E w v, E w w]] + detN 3 [[E x x, E x y, E x w], [E y x, E y y, E y w], [E w x, E w y, E w w]]
      have e0 : more1 E v v v = E v v + 1 := by simp [more1]
      have exx : more1 E v x x = E x x := if_neg fun h => n2 h.1
      have exy : more1 E v x y = E x y := if_neg fun h => n2 h.1
      have exv : more1 E v x v = E x v := if_neg fun h => n2 h.1
      have exw : more1 E v x w = E x w := if_neg fun h => n2 h.1
      have eyx : more1 E v y x = E y x := if_neg fun h => n4 h.1
      have eyy : more1 E v y y = E y y := if_neg fun h => n4 h.1
      have eyv : more1 E v y v = E y v := if_neg fun h => n4 h.1
      have eyw : more1 E v y w = E y w := if_neg fun h => n4 h.1
      have evx : more1 E v v x = E v x := if_neg fun h => n2 h.2
      have evy : more1 E v v y = E v y := if_neg fun h => n4 h.2
      have evw : more1 E v v w = E v w := if_neg fun h => (Ne.symm n6) h.2
      have ewx : more1 E v w x = E w x := if_neg fun h => (Ne.symm n6) h.1
      have ewy : more1 E v w y = E w y := if_neg fun h => (Ne.symm n6) h.1
      have ewv : more1 E v w v = E w v := if_neg fun h => (Ne.symm n6) h.1
      have eww : more1 E v w w = E w w := if_neg fun h => (Ne.symm n6) h.1
      rw [e0, exx, exy, exv, exw, eyx, eyy, eyv, eyw, evx, evy, evw, ewx, ewy, ewv, eww, inc4z]
    · have he : [x, y, z, v].erase v = [x, y, z] := by simp [n3, n5, n6]
      rw [he]
      show detN 4 [[more1 E v x x, more1 E v x y, more1 E v x z, more1 E v x v], [more1 E v y x, more1 E v y y, more1 E v y z, more1 E v y v], [more1 E v z x, more1 E v z y, more1 E v z z, more1 E v z v], [more1 E v v x, more1 E v v y, more1 E v v z, more1 E v v v]] = detN 4 [[E x x, E x y, E x z, E x v], [E y x, E y y, E y z, E y v], [E z x, E z y, E z z, E z v], [E v x, E v y, E v z, E v v]] + detN 3 [[E x x, E x y, E x z], [E y x, E y y, E y z], [E z x, E z y, E z z]]
      have e0 : more1 E v v v = E v v + 1 := by simp [more1]
      have exx : more1 E v x x = E x x := if_neg fun h => n3 h.1
      have exy : more1 E v x y = E x y := if_neg fun h => n3 h.1
      have exz : more1 E v x z = E x z := if_neg fun h => n3 h.1
      have exv : more1 E v x v = E x v := if_neg fun h => n3 h.1
      have eyx : more1 E v y x = E y x := if_neg fun h => n5 h.1
      have eyy : more1 E v y y = E y y := if_neg fun h => n5 h.1
      have eyz : more1 E v y z = E y z := if_neg fun h => n5 h.1
      have eyv : more1 E v y v = E y v := if_neg fun h => n5 h.1
      have ezx : more1 E v z x = E z x := if_neg fun h => n6 h.1
      have ezy : more1 E v z y = E z y := if_neg fun h => n6 h.1
      have ezz : more1 E v z z = E z z := if_neg fun h => n6 h.1
      have ezv : more1 E v z v = E z v := if_neg fun h => n6 h.1
      have evx : more1 E v v x = E v x := if_neg fun h => n3 h.2
      have evy : more1 E v v y = E v y := if_neg fun h => n5 h.2
      have evz : more1 E v v z = E v z := if_neg fun h => n6 h.2
      rw [e0, exx, exy, exz, exv, eyx, eyy, eyz, eyv, ezx, ezy, ezz, ezv, evx, evy, evz, inc4w]

theorem detF_E (m : Nat → Nat → Int) (A : List Nat) (b : Nat → Int) : detF m A b = detE (fun v u => if u = v then sL A (m v) + b v else - m v u) A := rfl
theorem detE_congr {E E' : Nat → Nat → Int} {A : List Nat} (h : ∀ v ∈ A, ∀ u ∈ A, E v u = E' v u) : detE E A = detE E' A := by
  unfold detE
  rw [List.map_congr_left fun v hv => List.map_congr_left fun u hu => h v hv u hu]
theorem detF_tree {m : Nat → Nat → Int} (hi : ∀ v, m v v = 0) (K : Nat) : TreeLike m K 4 (detF m) where
  congr := fun A b b' h => by
    rw [detF_E, detF_E]
    exact detE_congr fun v hv u _ => by rw [h v hv]
  nil := fun _ => rfl
  zero := fun A b hne hn hl hz => by
    rw [detF_E]
    refine detE_zero hne hl fun v hv => ?_
    rw [sL_erase hv, if_pos rfl, hz v hv, sL_erase hv, hi]
    have : sL (A.erase v) (fun u => if u = v then sL A (m v) + b v else - m v u) + sL (A.erase v) (m v) = 0 := by
      rw [← sL_add]
      exact sL_zero fun u hu => by rw [if_neg ((mem_er hn).1 hu).1]; omega
    have h2 : m v v + sL (A.erase v) (m v) = sL (A.erase v) (m v) := by rw [hi]; omega
    rw [hz v hv] at this
    rw [sL_erase hv, hi] at this
    omega
  step := fun A b v hn hl hv _ _ => by
    rw [detF_E, detF_E, detF_E]
    have h1 : detE (fun w u => if u = w then sL A (m w) + Gr.bump b v w else - m w u) A = detE (more1 (fun w u => if u = w then sL A (m w) + b w else - m w u) v) A := detE_congr fun w _ u _ => by
      unfold more1 Gr.bump
      by_cases e : u = w
      · subst e
        by_cases e2 : u = v
        · subst e2; simp; omega
        · simp [e2]
      · simp only [if_neg e]
        rw [if_neg (fun h => e (h.2.trans h.1.symm))]
    rw [h1, detE_step hn hl hv]
    congr 1
    refine detE_congr fun w hw u _ => ?_
    obtain ⟨e, _⟩ := (mem_er hn).1 hw
    have := sL_erase hv (m w)
    by_cases e2 : u = w
    · simp only [if_pos e2]; omega
    · simp only [if_neg e2]
end Go.Proofs.Ytifdhapaonideaa
