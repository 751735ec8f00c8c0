/- From a law's row to its walk: a slice of links opened. -/
import Derived.Test.YtlehhfmbdcmpoaaOpen
import Derived.Test.YtlehhfmbdcmpoaaLink
import Derived.ChangeSame
import Derived.Deep.Strs
namespace Go.Proofs.Ytlehhfmbdcmpoaa
open Go.ChangeShapes Go.WideShapes Go.ChangeAt Go.RowKit Go.Deep
open Go.ChangeMaps (open_string shut_string)

theorem Try.cellsLink : Try.prog.cellsOf 80 = 3 := by kernel_rfl

theorem three_of_len {α : Type} {l : List α} (h : l.length = 3) : ∃ a b c, l = [a, b, c] := by
  match l, h with
  | [a, b, c], _ => exact ⟨a, b, c, rfl⟩

section
variable {H : Type} {enc : TypeId × Value → H} {W : World} {base : Nat}

set_option maxRecDepth 100000 in
theorem open_rlinks {v : Value} {d : DataW H} {p : List MemPlace} (hv : Value.okWide Try.prog W .any base 22 v) (h : DataW.Trod enc Try.prog W 0 (fun _ => true) true 22 v d p) :
    ∃ L, RLinks W v L ∧ ∀ t ∈ L, I64 t.a ∧ I64 t.b ∧ I64 t.n := by
  obtain ⟨a, len, cap, rfl⟩ := okWide_slice Try.underlying22 hv
  obtain ⟨fuel, hf⟩ := h
  rcases open_slice Try.underlying22 hf with ⟨hcs, _⟩ | ⟨ad, l, c, m, n, D, Pl, hcs, _, hl, hm, hmm, _, hr⟩
  · simp [Value.cells] at hcs
    obtain ⟨rfl, rfl, rfl⟩ := hcs
    exact ⟨[], ⟨none, 0, rfl, Nat.le_refl _, by unfold maxLen; omega, fun i hi => by simp at hi⟩, by simp⟩
  · simp [Value.cells] at hcs
    obtain ⟨rfl, rfl, rfl⟩ := hcs
    simp only [if_true] at hmm
    have each : ∀ i, i < len → ∃ y : Int × Int × Int, W.cell? (ad.add (i * 3)) = some (.int .i64 y.1) ∧ W.cell? ((ad.add (i * 3)).add 1) = some (.int .i64 y.2.1) ∧ W.cell? ((ad.add (i * 3)).add 2) = some (.int .i64 y.2.2) ∧ I64 y.1 ∧ I64 y.2.1 ∧ I64 y.2.2 := by
      intro i hi
      obtain ⟨cs, h1, h2⟩ := hr i (by omega)
      rw [Try.cellsLink] at h1
      obtain ⟨_, hlen, hc⟩ := World.cells?_some h1
      obtain ⟨y0, y1, y2, n', _, _, h3, h4, h5⟩ := trod_struct3 Try.underlying80 h2
      obtain ⟨c0, c1, c2, rfl⟩ := three_of_len hlen
      have h3' : DataW.trod enc Try.prog W 0 (fun _ => true) true n' 3 [c0] = some y0 := by
        have := h3
        simp only [Try.cellsInt] at this
        simpa using this
      have h4' : DataW.trod enc Try.prog W 0 (fun _ => true) true n' 3 [c1] = some y1 := by
        have := h4
        simp only [Try.cellsInt] at this
        simpa using this
      have h5' : DataW.trod enc Try.prog W 0 (fun _ => true) true n' 3 [c2] = some y2 := by
        have := h5
        simp only [Try.cellsInt] at this
        simpa using this
      obtain ⟨z0, e0, _, w0⟩ := DataW.trod_int Try.underlying3 h3'
      obtain ⟨z1, e1, _, w1⟩ := DataW.trod_int Try.underlying3 h4'
      obtain ⟨z2, e2, _, w2⟩ := DataW.trod_int Try.underlying3 h5'
      simp at e0 e1 e2
      subst e0 e1 e2
      refine ⟨(z0, z1, z2), ?_, ?_, ?_, I64_of w0, I64_of w1, I64_of w2⟩
      · have := hc 0 (by omega)
        simpa [Addr.add] using this
      · have := hc 1 (by omega)
        simpa using this
      · have := hc 2 (by omega)
        simpa using this
    obtain ⟨y, hy⟩ := Go.Deep.choose_lt each
    refine ⟨(List.range len).map fun i => ⟨(y i).1, (y i).2.1, (y i).2.2⟩, ⟨some ad, cap, by simp, by simpa using hl, hm, fun i hi => ?_⟩, fun t ht => ?_⟩
    · simp only [List.length_map, List.length_range] at hi
      obtain ⟨k1, k2, k3, _⟩ := hy i hi
      obtain ⟨b, off, spot⟩ := ad
      have hspot : spot = none := by
        have h0 := (hy 0 (by omega)).1
        simpa [Addr.add] using World.cell?_spot h0
      subst hspot
      have e : ((⟨b, off, none⟩ : Addr).add (i * 3)) = ⟨b, off + i * 3, none⟩ := by unfold Addr.add; split <;> simp_all
      rw [e] at k1 k2 k3
      have hg : ((List.range len).map fun i => (⟨(y i).1, (y i).2.1, (y i).2.2⟩ : Lnk)).getD i noLnk = ⟨(y i).1, (y i).2.1, (y i).2.2⟩ := by simp [List.getD, hi]
      rw [hg]
      exact ⟨b, off, rfl, k1, k2, k3⟩
    · obtain ⟨i, hi, rfl⟩ := List.mem_map.1 ht
      obtain ⟨_, _, _, k4, k5, k6⟩ := hy i (List.mem_range.1 hi)
      exact ⟨k4, k5, k6⟩
end

end Go.Proofs.Ytlehhfmbdcmpoaa
