/- Marks of the reference. -/
import Derived.Test.YthkeggmloajapaaRefMark2
import Derived.Test.YthkeggmloajapaaMarkFn
namespace Go.Proofs.Ythkeggmloajapaa
open Go.RowKit
theorem addM_len (out : List MarkD) (k : Int) (t : List UInt8) : (addM out k t).length ≤ out.length + 1 := by
  unfold addM
  split
  · split
    · simp
    · simp
  · simp
theorem addM_text {out : List MarkD} {k : Int} {t : List UInt8} {B d : Nat} (h : ∀ m ∈ out, m.2.length ≤ B) (ht : t.length ≤ d) : ∀ m ∈ addM out k t, m.2.length ≤ B + d := by
  intro m hm
  unfold addM at hm
  split at hm
  · rename_i x hx
    have hxm : x ∈ out := List.mem_of_getLast? hx
    split at hm
    · rw [List.mem_append] at hm
      rcases hm with hm | hm
      · have := h m (List.dropLast_subset _ hm); omega
      · obtain rfl := List.mem_singleton.1 hm
        have := h x hxm
        dsimp only
        rw [List.length_append]
        omega
    · rw [List.mem_append] at hm
      rcases hm with hm | hm
      · have := h m hm; omega
      · obtain rfl := List.mem_singleton.1 hm
        dsimp only
        omega
  · rw [List.mem_append] at hm
    rcases hm with hm | hm
    · have := h m hm; omega
    · obtain rfl := List.mem_singleton.1 hm
      dsimp only
      omega
/-- the reference's marks so far -/
structure RMk (w wr : World) (s : List UInt8) (i : Nat) (ov : Value) (out : List MarkD) : Prop where
  le : i ≤ s.length
  rd : Rds wr 2 ov out.length (markC out)
  run : marksS s = mrest s i out
  len : out.length ≤ i
  txt : ∀ m ∈ out, m.2.length ≤ i
  below : Below w.heap.size w wr
theorem RMk.next {w wo W4 : World} {s : List UInt8} {i : Nat} {ov v4 : Value} {out : List MarkD} (h : RMk w wo s i ov out) {k : Int} {t : List UInt8} {d : Nat} (hst : mstep (s.drop i) = some (k, t, d)) (ht : t.length ≤ d)
    (hr : Rds W4 2 v4 (addM out k t).length (markC (addM out k t))) (hb : Below wo.heap.size wo W4) : RMk w W4 s (i + d) v4 (addM out k t) := by
  have hp := mstep_pos hst
  rw [List.length_drop] at hp
  have h1 := h.len
  have h2 := addM_len out k t
  have h3 := h.le
  exact ⟨by omega, hr, h.run.trans (mrest_next hst), by omega, addM_text h.txt ht, then_ h.below hb⟩
end Go.Proofs.Ythkeggmloajapaa
