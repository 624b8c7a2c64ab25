/- Arguments opened: a struct by value; slices of strings, of ints; the elements of a slice. -/
import Derived.Test.YthkeggmloajapaaBaseA
import Derived.Deep.Strs
import Derived.Lib.SmallJoins
namespace Go.Proofs.Ythkeggmloajapaa
open Go.ChangeShapes Go.WideShapes Go.Deep Go.Joins
section
variable {H : Type} {enc : TypeId × Value → H} {P : Program} {w : World} {base : Nat} {spare : Nat → Bool} {held : Bool}
theorem open_struct {r : Reach} {b0 : Nat} {t : TypeId} {fs : Array Field} {v : Value} {d : DataW H} {p : List MemPlace} (hs : P.underlying t = some (.struct fs)) (hv : Value.okWide P w r b0 t v) (h : DataW.Trod enc P w base spare held t v d p) :
    ∃ (cs : Array Value) (n : Nat), v = .agg cs ∧ cs.size = P.cellsOf t ∧ ∀ (i : Nat) (f : Field), fs[i]? = some f → ∃ y, DataW.trod enc P w base spare held n f.type ((cs.toList.drop f.offset).take (P.cellsOf f.type)) = some y := by
  obtain ⟨cs, rfl, hsz⟩ := okWide_struct hs hv
  obtain ⟨fuel, hf⟩ := h
  obtain ⟨xs, n, _, _, hl, hlen, hf⟩ := DataW.trod_struct hs hf
  refine ⟨cs, n, rfl, hsz, fun i f hif => ?_⟩
  have hi : i < xs.length := by rw [hlen]; exact (Array.getElem?_eq_some_iff.1 hif).1
  exact ⟨xs[i], by simpa [Value.cells] using (hf i f hif).trans (List.getElem?_eq_getElem hi)⟩
/-- a slice, element by element: its cells, and their reading -/
theorem rows_of_trod {t e : TypeId} {fuel : Nat} {cs : List Value} {x : DataW H × List MemPlace} (ht : P.underlying t = some (.slice e)) (hp : 0 < P.cellsOf e) (h : DataW.trod enc P w base spare held fuel t cs = some x) :
    ∃ (A : Option Addr) (len c n : Nat), cs = [.slice A len c] ∧ len ≤ c ∧ c ≤ maxLen ∧ ∀ k, k < len → ∃ b o cs' y, A = some ⟨b, o, none⟩ ∧ cs'.length = P.cellsOf e ∧ (∀ j u, cs'[j]? = some u → w.cell? ⟨b, o + k * P.cellsOf e + j, none⟩ = some u) ∧ DataW.trod enc P w base spare held n e cs' = some y := by
  rcases open_slice ht h with ⟨rfl, rfl⟩ | ⟨a, len, cap, m, n, D, Pl, rfl, hb, hl, hm, hmm, rfl, hx⟩
  · exact ⟨none, 0, 0, 0, rfl, Nat.le_refl _, Nat.zero_le _, fun k hk => absurd hk (by omega)⟩
  refine ⟨some a, len, cap, n, rfl, hl, hm, fun k hk => ?_⟩
  have hkm : k < m := by rw [hmm]; split <;> omega
  obtain ⟨cs', h1, h2⟩ := hx k hkm
  obtain ⟨_, hlen, hc⟩ := World.cells?_some h1
  obtain ⟨b, o, s⟩ := a
  have hsp : s = none := by
    obtain ⟨cs0, g1, _⟩ := hx 0 (by omega)
    obtain ⟨_, hlen0, hc0⟩ := World.cells?_some g1
    have h0 := hc0 0 hp
    rw [List.getElem?_eq_getElem (by omega)] at h0
    have := World.cell?_spot h0
    simpa [Addr.add] using this
  subst hsp
  refine ⟨b, o, cs', _, rfl, hlen, fun j u hu => ?_, h2⟩
  have hj : j < P.cellsOf e := by rw [← hlen]; exact (List.getElem?_eq_some_iff.1 hu).1
  have := hc j hj
  rw [hu, addr_add, addr_add] at this
  exact this
theorem strs_of_trod {t e : TypeId} {fuel : Nat} {cs : List Value} {x : DataW H × List MemPlace} (ht : P.underlying t = some (.slice e)) (he : P.underlying e = some .string) (hc : P.cellsOf e = 1) (h : DataW.trod enc P w base spare held fuel t cs = some x) :
    ∃ v l, cs = [v] ∧ Strs w v l ∧ ∀ s ∈ l, s.length ≤ maxLen := by
  obtain ⟨A, len, c, n, rfl, hl, hm, hx⟩ := rows_of_trod ht (by omega) h
  obtain ⟨S, hS⟩ := choose_lt (α := List UInt8) (p := fun k s => ∃ b o, A = some ⟨b, o, none⟩ ∧ w.cell? ⟨b, o + k, none⟩ = some (.string ⟨s.toArray⟩) ∧ s.length ≤ maxLen) (n := len) (fun k hk => by
    obtain ⟨b, o, cs', y, hA, hlen, hcell, hy⟩ := hx k hk
    obtain ⟨s, h1, h2, h3⟩ := DataW.trod_string he hy
    refine ⟨s.data.toList, b, o, hA, ?_, by simpa using h3⟩
    have := hcell 0 _ (by rw [h1]; rfl)
    rw [hc] at this
    simpa using this)
  refine ⟨_, (List.range len).map S, rfl, ⟨A, c, by simp, by simpa using hl, by simp; omega, by simp, fun h0 => ?_⟩, ?_⟩
  · simp at h0
    obtain ⟨b, o, hA, _⟩ := hS 0 h0
    refine ⟨b, o, hA, fun j u hu => ?_⟩
    simp [List.getElem?_map] at hu
    obtain ⟨i, hi, rfl⟩ := hu
    obtain ⟨hi2, rfl⟩ := List.getElem?_eq_some_iff.1 hi
    simp at hi2
    obtain ⟨b', o', hA', hcell, _⟩ := hS j hi2
    obtain ⟨rfl, rfl⟩ := (by simpa [hA] using hA' : b = b' ∧ o = o')
    simpa using hcell
  · intro s hs
    obtain ⟨k, hk, rfl⟩ := List.mem_map.1 hs
    exact (hS k (List.mem_range.1 hk)).choose_spec.choose_spec.2.2
theorem ints_of_trod {t e : TypeId} {fuel : Nat} {cs : List Value} {x : DataW H × List MemPlace} (ht : P.underlying t = some (.slice e)) (he : P.underlying e = some (.int .i64)) (hc : P.cellsOf e = 1) (h : DataW.trod enc P w base spare held fuel t cs = some x) :
    ∃ v l, cs = [v] ∧ Ints w v l ∧ ∀ z ∈ l, (Lit.int .i64 z).wf = true := by
  obtain ⟨A, len, c, n, rfl, hl, hm, hx⟩ := rows_of_trod ht (by omega) h
  obtain ⟨S, hS⟩ := choose_lt (α := Int) (p := fun k s => ∃ b o, A = some ⟨b, o, none⟩ ∧ w.cell? ⟨b, o + k, none⟩ = some (.int .i64 s) ∧ (Lit.int .i64 s).wf = true) (n := len) (fun k hk => by
    obtain ⟨b, o, cs', y, hA, hlen, hcell, hy⟩ := hx k hk
    obtain ⟨s, h1, h2, h3⟩ := DataW.trod_int he hy
    refine ⟨s, b, o, hA, ?_, h3⟩
    have := hcell 0 _ (by rw [h1]; rfl)
    rw [hc] at this
    simpa using this)
  refine ⟨_, (List.range len).map S, rfl, ⟨A, c, by simp, by simpa using hl, by simp; omega, by simp, fun h0 => ?_⟩, ?_⟩
  · simp at h0
    obtain ⟨b, o, hA, _⟩ := hS 0 h0
    refine ⟨b, o, hA, fun j u hu => ?_⟩
    simp [List.getElem?_map] at hu
    obtain ⟨i, hi, rfl⟩ := hu
    obtain ⟨hi2, rfl⟩ := List.getElem?_eq_some_iff.1 hi
    simp at hi2
    obtain ⟨b', o', hA', hcell, _⟩ := hS j hi2
    obtain ⟨rfl, rfl⟩ := (by simpa [hA] using hA' : b = b' ∧ o = o')
    simpa using hcell
  · intro s hs
    obtain ⟨k, hk, rfl⟩ := List.mem_map.1 hs
    exact (hS k (List.mem_range.1 hk)).choose_spec.choose_spec.2.2
end
end Go.Proofs.Ythkeggmloajapaa
