/- From a law's row to its walk: a slice of tasks opened. -/
import Derived.Test.YtofojanpiebimaaOpen
import Derived.Test.YtofojanpiebimaaTask
import Derived.ChangeSame
namespace Go.Proofs.Ytofojanpiebimaa
open Go.ChangeShapes Go.WideShapes Go.ChangeAt Go.RowKit Go.Deep
open Go.ChangeMaps (open_string shut_string)

theorem Try.cellsTask : Try.prog.cellsOf 51 = 2 := by kernel_rfl

theorem two_of_len {α : Type} {l : List α} (h : l.length = 2) : ∃ a b, l = [a, b] := by
  match l, h with
  | [a, b], _ => exact ⟨a, b, rfl⟩

section
variable {H : Type} {enc : TypeId × Value → H} {W : World} {base : Nat}

theorem rints_of_trod {fuel : Nat} {v : Value} {x : DataW H × List MemPlace} (hf : DataW.trod enc Try.prog W 0 (fun _ => true) true fuel 31 [v] = some x) : ∃ xs, RInts W v xs ∧ ∀ x ∈ xs, I64 x := by
  rcases open_ints Try.underlying31 Try.underlying3 Try.cellsInt hf with ⟨hcs, _⟩ | ⟨x, l, c, zs, hcs, _, hl, hm, hz, _, hcell, hwz⟩
  · simp at hcs
    subst hcs
    exact ⟨[], ⟨none, 0, rfl, Nat.le_refl _, by unfold maxLen; omega, fun i hi => by simp at hi⟩, by simp⟩
  · simp at hcs
    subst hcs
    simp only [if_true] at hz
    exact ⟨zs.take l, rints_row hl hm hz (fun a' ha c hc => by cases ha; exact hcell c (by omega)) (fun e => by cases e), fun x hx => I64_of (hwz x (List.mem_of_mem_take hx))⟩

theorem open_rtasks {v : Value} {d : DataW H} {p : List MemPlace} (hv : Value.okWide Try.prog W .any base 22 v) (h : DataW.Trod enc Try.prog W 0 (fun _ => true) true 22 v d p) :
    ∃ L, RTasks W v L ∧ ∀ t ∈ L, I64 t.time ∧ ∀ x ∈ t.needs, I64 x := by
  obtain ⟨a, len, cap, rfl⟩ := okWide_slice Try.underlying22 hv
  obtain ⟨fuel, hf⟩ := h
  rcases open_slice Try.underlying22 hf with ⟨hcs, _⟩ | ⟨ad, l, c, m, n, D, Pl, hcs, _, hl, hm, hmm, _, hr⟩
  · simp [Value.cells] at hcs
    obtain ⟨rfl, rfl, rfl⟩ := hcs
    exact ⟨[], ⟨none, 0, rfl, Nat.le_refl _, by unfold maxLen; omega, fun i hi => by simp at hi⟩, by simp⟩
  · simp [Value.cells] at hcs
    obtain ⟨rfl, rfl, rfl⟩ := hcs
    simp only [if_true] at hmm
    have each : ∀ i, i < len → ∃ y : Value × List Int × Int, W.cell? (ad.add (i * 2)) = some y.1 ∧ W.cell? ((ad.add (i * 2)).add 1) = some (.int .i64 y.2.2) ∧ RInts W y.1 y.2.1 ∧ I64 y.2.2 ∧ ∀ x ∈ y.2.1, I64 x := by
      intro i hi
      obtain ⟨cs, h1, h2⟩ := hr i (by omega)
      rw [Try.cellsTask] at h1
      obtain ⟨_, hlen, hc⟩ := World.cells?_some h1
      obtain ⟨y0, y1, n', _, _, h3, h4⟩ := trod_struct2 Try.underlying51 h2
      obtain ⟨c0, c1, rfl⟩ := two_of_len hlen
      have h3' : DataW.trod enc Try.prog W 0 (fun _ => true) true n' 31 [c0] = some y0 := by
        have := h3
        simp only [Try.cellsInts] at this
        simpa using this
      have h4' : DataW.trod enc Try.prog W 0 (fun _ => true) true n' 3 [c1] = some y1 := by
        have := h4
        simp only [Try.cellsInt] at this
        simpa using this
      obtain ⟨xs, hx, hx2⟩ := rints_of_trod h3'
      obtain ⟨z, e0, _, wz⟩ := DataW.trod_int Try.underlying3 h4'
      simp at e0
      subst e0
      refine ⟨(c0, xs, z), ?_, ?_, hx, I64_of wz, hx2⟩
      · have := hc 0 (by omega)
        simpa [Addr.add] using this
      · have := hc 1 (by omega)
        simpa using this
    obtain ⟨y, hy⟩ := Go.Deep.choose_lt each
    refine ⟨(List.range len).map fun i => ⟨(y i).2.1, (y i).2.2⟩, ⟨some ad, cap, by simp, by simpa using hl, hm, fun i hi => ?_⟩, fun t ht => ?_⟩
    · simp only [List.length_map, List.length_range] at hi
      obtain ⟨k1, k2, k3, _⟩ := hy i hi
      obtain ⟨b, off, spot⟩ := ad
      have hspot : spot = none := by
        have h0 := (hy 0 (by omega)).1
        simpa [Addr.add] using World.cell?_spot h0
      subst hspot
      have e : ((⟨b, off, none⟩ : Addr).add (i * 2)) = ⟨b, off + i * 2, none⟩ := by unfold Addr.add; split <;> simp_all
      rw [e] at k1 k2
      have hg : ((List.range len).map fun i => (⟨(y i).2.1, (y i).2.2⟩ : Tsk)).getD i noTsk = ⟨(y i).2.1, (y i).2.2⟩ := by simp [List.getD, hi]
      rw [hg]
      exact ⟨b, off, _, rfl, k1, k2, k3⟩
    · obtain ⟨i, hi, rfl⟩ := List.mem_map.1 ht
      obtain ⟨_, _, _, k4, k5⟩ := hy i (List.mem_range.1 hi)
      exact ⟨k4, k5⟩
end

end Go.Proofs.Ytofojanpiebimaa
