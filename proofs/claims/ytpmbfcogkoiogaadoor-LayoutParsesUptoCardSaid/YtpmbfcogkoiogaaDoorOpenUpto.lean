/- Arguments opened, with what their bulk says of the lists that they read as. -/
import Derived.Test.YtpmbfcogkoiogaaDoorOpen
import Derived.Test.YtpmbfcogkoiogaaDoorLawUpto
namespace Go.Proofs.YtpmbfcogkoiogaaDoor
open Go.ChangeShapes Go.WideShapes Go.Deep Go.Joins
section
variable {H : Type} {enc : TypeId × Value → H} {P : Program} {w : World} {base : Nat} {spare : Nat → Bool} {held : Bool}
/-- a slice, element by element: its cells, their reading, and the bulk of the whole -/
theorem rows_of_trod_b {t e : TypeId} {fuel : Nat} {cs : List Value} {x : DataW H × List MemPlace} (ht : P.underlying t = some (.slice e)) (hp : 0 < P.cellsOf e) (h : DataW.trod enc P w base spare held fuel t cs = some x) :
    ∃ (A : Option Addr) (len c n : Nat) (D : Nat → DataW H), cs = [.slice A len c] ∧ len ≤ c ∧ c ≤ maxLen ∧ Rows.uptoBulkAll ((List.range len).map D) + 1 ≤ Rows.uptoBulk x.1 ∧
      ∀ k, k < len → ∃ b o cs' pl, A = some ⟨b, o, none⟩ ∧ cs'.length = P.cellsOf e ∧ (∀ j u, cs'[j]? = some u → w.cell? ⟨b, o + k * P.cellsOf e + j, none⟩ = some u) ∧ DataW.trod enc P w base spare held n e cs' = some (D k, pl) := by
  have h0 := h
  rcases open_slice ht h with ⟨rfl, rfl⟩ | ⟨a, len, cap, m, n, D, Pl, rfl, hb, hl, hm, hmm, rfl, hx⟩
  · exact ⟨none, 0, 0, 0, fun _ => .nil, rfl, Nat.le_refl _, Nat.zero_le _, by simp [Rows.uptoBulkAll, Rows.uptoBulk], fun k hk => absurd hk (by omega)⟩
  refine ⟨some a, len, cap, n, D, rfl, hl, hm, by simp only [Rows.uptoBulk]; omega, fun k hk => ?_⟩
  have hkm : k < m := by rw [hmm]; split <;> omega
  obtain ⟨cs', h1, h2⟩ := hx k hkm
  obtain ⟨_, hlen, hc⟩ := World.cells?_some h1
  obtain ⟨b, o, s⟩ := a
  have hsp : s = none := by
    obtain ⟨cs0, g1, _⟩ := hx 0 (by omega)
    obtain ⟨_, hlen0, hc0⟩ := World.cells?_some g1
    have h0 := hc0 0 hp
    rw [List.getElem?_eq_getElem (by omega)] at h0
    have := World.cell?_spot h0
    simpa [Addr.add] using this
  subst hsp
  refine ⟨b, o, cs', _, rfl, hlen, fun j u hu => ?_, h2⟩
  have hj : j < P.cellsOf e := by rw [← hlen]; exact (List.getElem?_eq_some_iff.1 hu).1
  have := hc j hj
  rw [hu, addr_add, addr_add] at this
  exact this
theorem bulk_map {S : Nat → List UInt8} {D : Nat → DataW H} : ∀ (l : List Nat), (∀ k ∈ l, (S k).length + 1 ≤ Rows.uptoBulk (D k)) → (l.map S).flatten.length + l.length ≤ Rows.uptoBulkAll (l.map D) := by
  intro l
  induction l with
  | nil => intro _; simp
  | cons a l ih =>
    intro h
    have h1 := h a (List.mem_cons_self ..)
    have h2 := ih fun k hk => h k (List.mem_cons_of_mem _ hk)
    simp only [List.map_cons, List.flatten_cons, List.length_append, List.length_cons, Rows.uptoBulkAll] at h2 ⊢
    omega
theorem strs_of_trod_b {t e : TypeId} {fuel : Nat} {cs : List Value} {x : DataW H × List MemPlace} (ht : P.underlying t = some (.slice e)) (he : P.underlying e = some .string) (hc : P.cellsOf e = 1) (h : DataW.trod enc P w base spare held fuel t cs = some x) :
    ∃ v l, cs = [v] ∧ Strs w v l ∧ (∀ s ∈ l, s.length ≤ maxLen) ∧ l.flatten.length + l.length + 1 ≤ Rows.uptoBulk x.1 := by
  obtain ⟨A, len, c, n, D, rfl, hl, hm, hbk, hx⟩ := rows_of_trod_b ht (by omega) h
  obtain ⟨S, hS⟩ := choose_lt (α := List UInt8) (p := fun k s => ∃ b o, A = some ⟨b, o, none⟩ ∧ w.cell? ⟨b, o + k, none⟩ = some (.string ⟨s.toArray⟩) ∧ s.length ≤ maxLen ∧ D k = .lit (.string s)) (n := len) (fun k hk => by
    obtain ⟨b, o, cs', pl, hA, hlen, hcell, hy⟩ := hx k hk
    obtain ⟨s, h1, h2, h3⟩ := DataW.trod_string he hy
    refine ⟨s.data.toList, b, o, hA, ?_, by simpa using h3, by injection h2⟩
    have := hcell 0 _ (by rw [h1]; rfl)
    rw [hc] at this
    simpa using this)
  refine ⟨_, (List.range len).map S, rfl, ⟨A, c, by simp, by simpa using hl, by simp; omega, by simp, fun h0 => ?_⟩, ?_, ?_⟩
  · simp at h0
    obtain ⟨b, o, hA, _⟩ := hS 0 h0
    refine ⟨b, o, hA, fun j u hu => ?_⟩
    simp [List.getElem?_map] at hu
    obtain ⟨i, hi, rfl⟩ := hu
    obtain ⟨hi2, rfl⟩ := List.getElem?_eq_some_iff.1 hi
    simp at hi2
    obtain ⟨b', o', hA', hcell, _⟩ := hS j hi2
    obtain ⟨rfl, rfl⟩ := (by simpa [hA] using hA' : b = b' ∧ o = o')
    simpa using hcell
  · intro s hs
    obtain ⟨k, hk, rfl⟩ := List.mem_map.1 hs
    exact (hS k (List.mem_range.1 hk)).choose_spec.choose_spec.2.2.1
  · have := bulk_map (S := S) (D := D) (List.range len) fun k hk => by
      rw [(hS k (List.mem_range.1 hk)).choose_spec.choose_spec.2.2.2]
      simp [Rows.uptoBulk]
    rw [List.length_map]
    omega
theorem bulk_agg2 (a b : DataW H) : Rows.uptoBulk (.agg [a, b]) = Rows.uptoBulk a + Rows.uptoBulk b + 1 := by simp [Rows.uptoBulk, Rows.uptoBulkAll]
end
theorem array2' {α : Type} {cs : Array α} (h : cs.size = 2) : ∃ c0 c1, cs = #[c0, c1] := by
  obtain ⟨l⟩ := cs
  match l, h with
  | [c0, c1], _ => exact ⟨c0, c1, rfl⟩
end Go.Proofs.YtpmbfcogkoiogaaDoor
