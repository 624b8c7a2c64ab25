/- Arguments opened: slices of words. -/
import Derived.Test.YtignhjfobcnloaaOpens
import Derived.Test.YtignhjfobcnloaaSrcVals
namespace Go.Proofs.Ytignhjfobcnloaa
open Go.ChangeShapes Go.WideShapes Go.Deep Go.Joins
section
variable {H : Type} {enc : TypeId × Value → H} {w : World} {base : Nat} {spare : Nat → Bool} {held : Bool}
theorem words_mk {A : Option Addr} {l : List WordD} {c : Nat} (h1 : l.length ≤ c) (h2 : l.length ≤ maxLen) (h : ∀ k y, l[k]? = some y → ∃ b o, A = some ⟨b, o, none⟩ ∧ w.cell? ⟨b, o + k * 3, none⟩ = some (.string ⟨y.1.toArray⟩) ∧ w.cell? ⟨b, o + k * 3 + 1, none⟩ = some (.int .i64 y.2.1) ∧ w.cell? ⟨b, o + k * 3 + 2, none⟩ = some (.int .i64 y.2.2)) : WordsAt w (.slice A l.length c) l := by
  have hlen : ∀ m : List WordD, (m.flatMap wordCells).length = m.length * 3 := by
    intro m
    induction m with
    | nil => rfl
    | cons x m ih => rw [List.flatMap_cons, List.length_append, ih]; simp [wordCells]; omega
  refine ⟨A, c, rfl, h1, h2, hlen l, fun h0 => ?_⟩
  obtain ⟨b, o, hA, _⟩ := h 0 _ (List.getElem?_eq_getElem h0)
  refine ⟨b, o, hA, fun j u hu => ?_⟩
  have hj : j < l.length * 3 := by rw [← hlen]; exact (List.getElem?_eq_some_iff.1 hu).1
  have hk : j / 3 < l.length := by omega
  obtain ⟨b', o', hA', c0, c1, c2⟩ := h (j / 3) _ (List.getElem?_eq_getElem hk)
  obtain ⟨rfl, rfl⟩ := (by simpa [hA] using hA' : b = b' ∧ o = o')
  have hf := flatN 3 wordCells (fun _ => rfl) l (j / 3) (j % 3) _ (List.getElem?_eq_getElem hk) (by omega)
  rw [show j / 3 * 3 + j % 3 = j by omega, hu] at hf
  rcases (show j % 3 = 0 ∨ j % 3 = 1 ∨ j % 3 = 2 by omega) with e | e | e
  · rw [e] at hf; have : j = j / 3 * 3 := by omega
    rw [this, c0]; exact hf.symm
  · rw [e] at hf; have : o + j = o + j / 3 * 3 + 1 := by omega
    rw [this, c1]; exact hf.symm
  · rw [e] at hf; have : o + j = o + j / 3 * 3 + 2 := by omega
    rw [this, c2]; exact hf.symm
set_option maxRecDepth 100000 in
theorem words_of_trod {fuel : Nat} {cs : List Value} {x : DataW H × List MemPlace} (h : DataW.trod enc Try.prog w base spare held fuel 51 cs = some x) :
    ∃ v l, cs = [v] ∧ WordsAt w v l ∧ ∀ y ∈ l, y.1.length ≤ maxLen := by
  have hc : Try.prog.cellsOf 95 = 3 := by kernel_rfl
  have hc0 : Try.prog.cellsOf 9 = 1 := by kernel_rfl
  have hc1 : Try.prog.cellsOf 89 = 2 := by kernel_rfl
  have hc2 : Try.prog.cellsOf 3 = 1 := by kernel_rfl
  obtain ⟨A, len, c, n, rfl, hl, hm, hx⟩ := rows_of_trod Try.underlying51 (by rw [hc]; decide) h
  obtain ⟨S, hS⟩ := choose_lt (α := WordD) (p := fun k y => (∃ b o, A = some ⟨b, o, none⟩ ∧ w.cell? ⟨b, o + k * 3, none⟩ = some (.string ⟨y.1.toArray⟩) ∧ w.cell? ⟨b, o + k * 3 + 1, none⟩ = some (.int .i64 y.2.1) ∧ w.cell? ⟨b, o + k * 3 + 2, none⟩ = some (.int .i64 y.2.2)) ∧ y.1.length ≤ maxLen) (n := len) (fun k hk => by
    obtain ⟨b, o, cs', y, hA, hlen, hcell, hy⟩ := hx k hk
    obtain ⟨xs, m, _, _, _, hlen', hf⟩ := DataW.trod_struct Try.underlying95 hy
    rw [hc] at hlen hcell
    match cs', hlen with
    | [v0, v1, v2], _ =>
      have hl' : xs.length = 2 := hlen'
      have f0 := hf 0 _ rfl
      have f1 := hf 1 _ rfl
      rw [List.getElem?_eq_getElem (by omega)] at f0 f1
      obtain ⟨s, h1, _, h3⟩ := DataW.trod_string Try.underlying9 f0
      change List.take (Try.prog.cellsOf 9) (List.drop 0 [v0, v1, v2]) = _ at h1
      rw [hc0] at h1
      change DataW.trod enc Try.prog w base spare held m 89 (List.take (Try.prog.cellsOf 89) (List.drop 1 [v0, v1, v2])) = _ at f1
      rw [hc1] at f1
      obtain ⟨ys, m2, _, _, _, hlen2, hf2⟩ := DataW.trod_struct Try.underlying89 f1
      have hl2 : ys.length = 2 := hlen2
      have g0 := hf2 0 _ rfl
      have g1 := hf2 1 _ rfl
      rw [List.getElem?_eq_getElem (by omega)] at g0 g1
      obtain ⟨i0, k1, _, k3⟩ := DataW.trod_int Try.underlying3 g0
      obtain ⟨i1, j1, _, j3⟩ := DataW.trod_int Try.underlying3 g1
      change List.take (Try.prog.cellsOf 3) (List.drop 0 [v1, v2]) = _ at k1
      change List.take (Try.prog.cellsOf 3) (List.drop 1 [v1, v2]) = _ at j1
      rw [hc2] at k1 j1
      simp at h1 k1 j1
      subst h1 k1 j1
      exact ⟨(s.data.toList, i0, i1), ⟨b, o, hA, by simpa using hcell 0 _ rfl, by simpa using hcell 1 _ rfl, by simpa using hcell 2 _ rfl⟩, by simpa using h3⟩)
  have hlen : ((List.range len).map S).length = len := by simp
  have := words_mk (w := w) (A := A) (l := (List.range len).map S) (c := c) (by simpa using hl) (by simp; omega) (fun k y hk => by
    simp [List.getElem?_map] at hk
    obtain ⟨i, hi, rfl⟩ := hk
    obtain ⟨hi2, rfl⟩ := List.getElem?_eq_some_iff.1 hi
    simp at hi2
    simpa using (hS k hi2).1)
  rw [hlen] at this
  refine ⟨_, (List.range len).map S, rfl, this, ?_⟩
  intro s hs
  obtain ⟨k, hk, rfl⟩ := List.mem_map.1 hs
  exact (hS k (List.mem_range.1 hk)).2
end
end Go.Proofs.Ytignhjfobcnloaa
