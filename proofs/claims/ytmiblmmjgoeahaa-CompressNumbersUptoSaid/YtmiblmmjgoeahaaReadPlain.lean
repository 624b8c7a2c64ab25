/- What Read returns for the words of a proof, as a plain function. -/
import Derived.Test.YtmiblmmjgoeahaaNamesPlain
import Derived.Test.YtmiblmmjgoeahaaNumPlain
namespace Go.Proofs.Ytmiblmmjgoeahaa
/-- the words of a compressed proof begin with a bracket -/
def isS (p : List (List UInt8)) : Prop := p.head? = some [40]
instance (p : List (List UInt8)) : Decidable (isS p) := by unfold isS; infer_instance
/-- the place of the closing bracket -/
def cutS (p : List (List UInt8)) : Nat := (indexI p [41]).toNat
/-- the labels between the brackets -/
def labS (p : List (List UInt8)) : List (List UInt8) := (p.take (cutS p)).drop 1
/-- the letters behind the brackets -/
def letS (p : List (List UInt8)) : List UInt8 := (p.drop (cutS p + 1)).flatten
def readS (p : List (List UInt8)) : (List (List UInt8) × List Int) × Int :=
  if isS p ∧ [41] ∈ p ∧ namesS (labS p) then
    if (numbersS (letS p)).2.2 = 0 then ((labS p, (numbersS (letS p)).1), 0) else (([], []), (numbersS (letS p)).2.2)
  else (([], []), 20)
theorem readS_no {p : List (List UInt8)} (h : ¬ (isS p ∧ [41] ∈ p ∧ namesS (labS p))) : readS p = (([], []), 20) := by unfold readS; rw [if_neg h]
theorem readS_bad {p : List (List UInt8)} (h1 : isS p) (h2 : [41] ∈ p) (h3 : namesS (labS p)) (h : ¬ (numbersS (letS p)).2.2 = 0) : readS p = (([], []), (numbersS (letS p)).2.2) := by
  unfold readS; rw [if_pos ⟨h1, h2, h3⟩, if_neg h]
theorem readS_ok {p : List (List UInt8)} (h1 : isS p) (h2 : [41] ∈ p) (h3 : namesS (labS p)) (h : (numbersS (letS p)).2.2 = 0) : readS p = ((labS p, (numbersS (letS p)).1), 0) := by
  unfold readS; rw [if_pos ⟨h1, h2, h3⟩, if_pos h]
theorem idxOf_lt {α : Type} [DecidableEq α] {l : List α} {x : α} (h : x ∈ l) : l.idxOf x < l.length := List.idxOf_lt_length_iff.2 h
theorem idxOf_ne {α : Type} [DecidableEq α] {a x : α} {r : List α} (h : a ≠ x) : (a :: r).idxOf x = r.idxOf x + 1 := by
  have e : (a == x) = false := by simpa using h
  rw [List.idxOf_cons, e]
  rfl
theorem cut_pos {p : List (List UInt8)} (h : isS p) (h2 : [41] ∈ p) : indexI p [41] = (cutS p : Int) ∧ 1 ≤ cutS p ∧ cutS p < p.length := by
  unfold cutS indexI
  rw [if_pos h2]
  refine ⟨by simp, ?_, idxOf_lt h2⟩
  cases p with
  | nil => simp at h2
  | cons a r =>
    have : a = [40] := by simpa [isS] using h
    subst this
    rw [idxOf_ne (by decide)]
    omega
theorem letS_le (p : List (List UInt8)) : (letS p).length ≤ p.flatten.length := by
  have : p.flatten = (p.take (cutS p + 1)).flatten ++ letS p := by rw [letS, ← List.flatten_append, List.take_append_drop]
  rw [this]; simp
end Go.Proofs.Ytmiblmmjgoeahaa
