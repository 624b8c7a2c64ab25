/- Arguments opened: slices of bindings, slices of pairs. -/
import Derived.Test.YtignhjfobcnloaaOpens
import Derived.Test.YtignhjfobcnloaaSubBind
import Derived.Test.YtignhjfobcnloaaSubSort
namespace Go.Proofs.Ytignhjfobcnloaa
open Go.ChangeShapes Go.WideShapes Go.Deep Go.Joins
section
variable {H : Type} {enc : TypeId × Value → H} {w : World} {base : Nat} {spare : Nat → Bool} {held : Bool}
set_option maxRecDepth 100000 in
theorem binds_of_trod {fuel : Nat} {cs : List Value} {x : DataW H × List MemPlace} (h : DataW.trod enc Try.prog w base spare held fuel 23 cs = some x) :
    ∃ v l, cs = [v] ∧ BindAt w v l ∧ ∀ y ∈ l, y.1.length ≤ maxLen ∧ ∀ s ∈ y.2, s.length ≤ maxLen := by
  have hc : Try.prog.cellsOf 28 = 2 := by kernel_rfl
  have hc0 : Try.prog.cellsOf 9 = 1 := by kernel_rfl
  have hc2 : Try.prog.cellsOf 22 = 1 := by kernel_rfl
  obtain ⟨A, len, c, n, rfl, hl, hm, hx⟩ := rows_of_trod Try.underlying23 (by rw [hc]; decide) h
  obtain ⟨S, hS⟩ := choose_lt (α := BindD) (p := fun k y => (∃ b o tv, A = some ⟨b, o, none⟩ ∧ w.cell? ⟨b, o + k * 2, none⟩ = some (.string ⟨y.1.toArray⟩) ∧ w.cell? ⟨b, o + k * 2 + 1, none⟩ = some tv ∧ Strs w tv y.2) ∧ y.1.length ≤ maxLen ∧ ∀ s ∈ y.2, s.length ≤ maxLen) (n := len) (fun k hk => by
    obtain ⟨b, o, cs', y, hA, hlen, hcell, hy⟩ := hx k hk
    obtain ⟨xs, m, _, _, _, hlen', hf⟩ := DataW.trod_struct Try.underlying28 hy
    rw [hc] at hlen hcell
    match cs', hlen with
    | [v0, v1], _ =>
      have hl' : xs.length = 2 := hlen'
      have f0 := hf 0 _ rfl
      have f1 := hf 1 _ rfl
      rw [List.getElem?_eq_getElem (by omega)] at f0 f1
      obtain ⟨s, h1, _, h3⟩ := DataW.trod_string Try.underlying9 f0
      obtain ⟨v, tl, g1, g2, g3⟩ := strs_of_trod Try.underlying22 Try.underlying9 hc0 f1
      change List.take (Try.prog.cellsOf 9) (List.drop 0 [v0, v1]) = _ at h1
      rw [hc0] at h1
      change List.take (Try.prog.cellsOf 22) (List.drop 1 [v0, v1]) = _ at g1
      rw [hc2] at g1
      simp at h1 g1
      subst h1 g1
      exact ⟨(s.data.toList, tl), ⟨b, o, v1, hA, by simpa using hcell 0 _ rfl, hcell 1 _ rfl, g2⟩, by simpa using h3, g3⟩)
  refine ⟨_, (List.range len).map S, rfl, ⟨A, c, by simp, by simpa using hl, by simp; omega, fun k y hk => ?_⟩, ?_⟩
  · simp [List.getElem?_map] at hk
    obtain ⟨i, hi, rfl⟩ := hk
    obtain ⟨hi2, rfl⟩ := List.getElem?_eq_some_iff.1 hi
    simp at hi2
    simpa using (hS k hi2).1
  · intro s hs
    obtain ⟨k, hk, rfl⟩ := List.mem_map.1 hs
    exact (hS k (List.mem_range.1 hk)).2
set_option maxRecDepth 100000 in
theorem pairs_of_trod {fuel : Nat} {cs : List Value} {x : DataW H × List MemPlace} (h : DataW.trod enc Try.prog w base spare held fuel 36 cs = some x) :
    ∃ v l, cs = [v] ∧ PairsAt w v l ∧ ∀ p ∈ l, p.1.length ≤ maxLen ∧ p.2.length ≤ maxLen := by
  have hc : Try.prog.cellsOf 39 = 2 := by kernel_rfl
  have hc0 : Try.prog.cellsOf 9 = 1 := by kernel_rfl
  obtain ⟨A, len, c, n, rfl, hl, hm, hx⟩ := rows_of_trod Try.underlying36 (by rw [hc]; decide) h
  obtain ⟨S, hS⟩ := choose_lt (α := PairD) (p := fun k y => (∃ b o, A = some ⟨b, o, none⟩ ∧ w.cell? ⟨b, o + k * 2, none⟩ = some (.string ⟨y.1.toArray⟩) ∧ w.cell? ⟨b, o + k * 2 + 1, none⟩ = some (.string ⟨y.2.toArray⟩)) ∧ y.1.length ≤ maxLen ∧ y.2.length ≤ maxLen) (n := len) (fun k hk => by
    obtain ⟨b, o, cs', y, hA, hlen, hcell, hy⟩ := hx k hk
    obtain ⟨xs, m, _, _, _, hlen', hf⟩ := DataW.trod_struct Try.underlying39 hy
    rw [hc] at hlen hcell
    match cs', hlen with
    | [v0, v1], _ =>
      have hl' : xs.length = 2 := hlen'
      have f0 := hf 0 _ rfl
      have f1 := hf 1 _ rfl
      rw [List.getElem?_eq_getElem (by omega)] at f0 f1
      obtain ⟨s, h1, _, h3⟩ := DataW.trod_string Try.underlying9 f0
      obtain ⟨s', g1, _, g3⟩ := DataW.trod_string Try.underlying9 f1
      change List.take (Try.prog.cellsOf 9) (List.drop 0 [v0, v1]) = _ at h1
      rw [hc0] at h1
      change List.take (Try.prog.cellsOf 9) (List.drop 1 [v0, v1]) = _ at g1
      rw [hc0] at g1
      simp at h1 g1
      subst h1 g1
      exact ⟨(s.data.toList, s'.data.toList), ⟨b, o, hA, by simpa using hcell 0 _ rfl, by simpa using hcell 1 _ rfl⟩, by simpa using h3, by simpa using g3⟩)
  have hlen : ((List.range len).map S).length = len := by simp
  have := PairsAt.mk (w := w) (A := A) (l := (List.range len).map S) (c := c) (by simpa using hl) (by simp; omega) (fun k y hk => by
    simp [List.getElem?_map] at hk
    obtain ⟨i, hi, rfl⟩ := hk
    obtain ⟨hi2, rfl⟩ := List.getElem?_eq_some_iff.1 hi
    simp at hi2
    simpa using (hS k hi2).1)
  rw [hlen] at this
  refine ⟨_, (List.range len).map S, rfl, this, ?_⟩
  intro s hs
  obtain ⟨k, hk, rfl⟩ := List.mem_map.1 hs
  exact (hS k (List.mem_range.1 hk)).2
end
end Go.Proofs.Ytignhjfobcnloaa
