/- The law SourceMarks. -/
import Derived.Test.YthkeggmloajapaaRefMark4
import Derived.Test.YthkeggmloajapaaRefMark5
import Derived.Test.YthkeggmloajapaaLawStrip
namespace Go.Proofs.Ythkeggmloajapaa
open Go.RowKit
def sumM (l : List MarkD) : Nat := (l.flatMap (·.2)).length
theorem sumM_take {l : List MarkD} {k : Nat} {x : MarkD} (h : l[k]? = some x) : sumM (l.take (k + 1)) = sumM (l.take k) + x.2.length := by
  unfold sumM
  rw [take_snoc h]
  simp
theorem sumM_part (l : List MarkD) {B : Nat} (hz : ∀ m ∈ l, m.2.length ≤ B) : ∀ k, sumM (l.take k) ≤ k * B
  | 0 => by simp [sumM]
  | k + 1 => by
    have ih := sumM_part l hz k
    rcases Nat.lt_or_ge k l.length with h | h
    · have hx := List.getElem?_eq_getElem h
      rw [sumM_take hx, Nat.succ_mul]
      have := hz _ (List.getElem_mem h)
      omega
    · rw [List.take_of_length_le (by omega)]
      rw [List.take_of_length_le h] at ih
      rw [Nat.succ_mul]
      omega
theorem sumM_mem {l : List MarkD} {m : MarkD} (h : m ∈ l) : m.2.length ≤ sumM l := by
  obtain ⟨a, b, rfl⟩ := List.append_of_mem h
  unfold sumM
  simp
  omega
theorem markC_own {w : World} {base : Nat} {e : TypeId} {v : Value} {l : List MarkD} {t : MarkD} {X : List Value} {n : Nat} (h : w.ownsRow base e 2 v (n + 1) (X ++ [.int .i64 t.1, .string ⟨t.2.toArray⟩])) (hX : X = markC l) (hn : n = l.length) :
    w.ownsRow base e 2 v (l ++ [t]).length (markC (l ++ [t])) := by
  subst hX hn
  rw [markC_snoc, List.length_append]
  exact h
theorem mrun_count : ∀ (n : Nat) (s : List UInt8) (i : Nat) (out : List MarkD), s.length ≤ n → (mrun n s i out).1.length ≤ out.length + s.length
  | 0, s, i, out, _ => by simp [mrun]
  | n + 1, s, i, out, h => by
    rw [mrun]
    split
    · simp
    · split
      · simp
      · rename_i k t c hs
        have hp := mstep_pos hs
        have h1 := mrun_count n (s.drop c) (i + c) (addM out k t) (by rw [List.length_drop]; omega)
        have h2 := addM_len out k t
        rw [List.length_drop] at h1
        omega
theorem marks_count (s : List UInt8) : (marksS s).1.length ≤ 40000 := by
  unfold marksS
  split
  · simp
  · have h := mrun_count s.length s 0 [] (Nat.le_refl _)
    simp at h
    omega
end Go.Proofs.Ythkeggmloajapaa
