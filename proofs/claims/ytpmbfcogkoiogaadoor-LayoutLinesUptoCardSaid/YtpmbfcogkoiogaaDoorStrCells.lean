/- A slice of strings: the row of the type's table, its cells; bytes, one behind the other. -/
import Derived.Test.YtpmbfcogkoiogaaDoorBldA
namespace Go.Proofs.YtpmbfcogkoiogaaDoor
open Go.RowKit
theorem infoStr : (Tryd.prog.info? 9).map (fun i => (i.zero, i.size, i.bytes)) = some (some (.string ⟨#[]⟩), 1, 16) := by kernel_rfl
theorem strs_cells {w : World} {b o n c : Nat} {l : List (List UInt8)} (h : Strs w (.slice (some ⟨b, o, none⟩) n c) l) : ∀ j u, (l.map fun s => Value.string ⟨s.toArray⟩)[j]? = some u → w.cell? ((⟨b, o, none⟩ : Addr).add j) = some u := by
  obtain ⟨A, c', hv, _, _, _, hr⟩ := h
  obtain ⟨rfl, rfl, rfl⟩ := (by simpa using hv : some ⟨b, o, none⟩ = A ∧ n = l.length ∧ c = c')
  intro j u hu
  have hj : j < l.length := by have := (List.getElem?_eq_some_iff.1 hu).1; simpa using this
  obtain ⟨b', o', ha, hz⟩ := hr (by omega)
  obtain ⟨rfl, rfl⟩ := (by simpa using ha : b = b' ∧ o = o')
  rw [addr_add]
  exact hz j u hu
theorem bytes_append (a l : List UInt8) : (ByteArray.mk a.toArray ++ ByteArray.mk l.toArray) = ByteArray.mk (a ++ l).toArray := by
  apply ByteArray.ext
  rw [ByteArray.data_append]
  simp
end Go.Proofs.YtpmbfcogkoiogaaDoor
