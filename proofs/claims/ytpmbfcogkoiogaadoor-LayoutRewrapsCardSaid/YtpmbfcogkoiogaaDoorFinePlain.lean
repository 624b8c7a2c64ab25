/- Layout: what well-formed statements are, in plain terms. -/
import Derived.Test.YtpmbfcogkoiogaaDoorLayWordsA
namespace Go.Proofs.YtpmbfcogkoiogaaDoor
theorem formed_kind {x : StmD} (h : formedS x = true) : 1 ≤ x.kind ∧ x.kind ≤ 9 := by
  rw [formedS_eq] at h
  simp only [Bool.and_eq_true] at h
  obtain ⟨⟨⟨h, -⟩, -⟩, -⟩ := h
  unfold okHead at h
  rw [Bool.and_eq_true] at h
  exact of_decide_eq_true h.1
theorem formed_len {x : StmD} (h : formedS x = true) : leastS x.kind ≤ x.text.length ∧ x.text.length ≤ mostS x.kind := by
  rw [formedS_eq] at h
  simp only [Bool.and_eq_true] at h
  obtain ⟨⟨⟨-, h⟩, -⟩, -⟩ := h
  unfold okLen at h
  rw [Bool.and_eq_true] at h
  exact of_decide_eq_true h.1
theorem formed_none {x : StmD} (h : formedS x = true) (h0 : mostS x.kind = 0) : x.text = [] := List.eq_nil_of_length_eq_zero (by have := formed_len h; omega)
theorem words_len {x : StmD} (h : formedS x = true) : (wordsS x).length ≤ x.proof.length + 204 := by
  have h1 := (formed_len h).2
  have h2 := mostS_le x.kind
  unfold wordsS
  simp only [List.length_append]
  have a1 : (if labS x.kind then [x.label] else []).length ≤ 1 := by split <;> simp
  have a2 : (if x.kind = 7 then [36, 61] :: x.proof else []).length ≤ x.proof.length + 1 := by split <;> simp
  have a3 : (if mostS x.kind = 0 then [] else [([36, 46] : List UInt8)]).length ≤ 1 := by split <;> simp
  simp only [List.length_cons, List.length_nil]
  omega
theorem allW_fine {l : List StmD} (h : (allW l).2 = 0) : ∀ x ∈ l, formedS x = true := by
  unfold allW at h
  split at h
  · cases h
  · split at h
    · rename_i h2
      exact List.all_eq_true.1 h2
    · cases h
end Go.Proofs.YtpmbfcogkoiogaaDoor
