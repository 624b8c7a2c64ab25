/- Elements struck from a row in place: plain law. -/
import Derived.Test.YtignhjfobcnloaaSubRows
import Derived.Test.YtignhjfobcnloaaComposeRow
import Derived.Test.YtignhjfobcnloaaSubFew
namespace Go.Proofs.Ytignhjfobcnloaa
open Go.RowKit Go.Sort
theorem filter_all {α : Type} {q : α → Bool} {d : Array α} {m : Nat} (h : ∀ x ∈ d.toList.take m, q x = true) : (d.toList.take m).filter q = d.toList.take m := List.filter_eq_self.2 h
section
variable {α : Type} [Inhabited α] {q : α → Bool} {d dk : Array α} {m k : Nat}
/-- m elements have been looked at; the k that stay lie at the row's head; from place k on the row is as it was -/
structure DelInv (q : α → Bool) (d : Array α) (m k : Nat) (dk : Array α) : Prop where
  size : dk.size = d.size
  len : ((d.toList.take m).filter q).length = k
  lt : k < m
  low : ∀ j, j < k → ((d.toList.take m).filter q)[j]? = some dk[j]!
  high : ∀ j, k ≤ j → dk[j]! = d[j]!
theorem take_at (hm : m < d.size) : d.toList.take (m + 1) = d.toList.take m ++ [d[m]!] := by
  rw [List.take_add_one, Array.getElem?_toList, Array.getElem?_eq_getElem hm, getElem!_pos d m hm]
  rfl
theorem filter_at (hm : m < d.size) : (d.toList.take (m + 1)).filter q = (d.toList.take m).filter q ++ (if q d[m]! = true then [d[m]!] else []) := by
  rw [take_at hm, List.filter_append, List.filter_cons]
  rfl
theorem DelInv.start (hm : m < d.size) (hall : ∀ x ∈ d.toList.take m, q x = true) (hdup : q d[m]! = false) : DelInv q d (m + 1) m d where
  size := rfl
  len := by rw [filter_at hm, filter_all hall, if_neg (by simp [hdup])]; simp; omega
  lt := Nat.lt_succ_self _
  low := fun j hj => by
    rw [filter_at hm, filter_all hall, if_neg (by simp [hdup]), List.append_nil, List.getElem?_take_of_lt hj, Array.getElem?_toList, Array.getElem?_eq_getElem (by omega), getElem!_pos d j (by omega)]
  high := fun _ _ => rfl
theorem DelInv.keep (h : DelInv q d m k dk) (hm : m < d.size) (hk : q d[m]! = true) : DelInv q d (m + 1) (k + 1) (dk.setIfInBounds k d[m]!) where
  size := by simp [h.size]
  len := by rw [filter_at hm, if_pos hk]; simp [h.len]
  lt := by have := h.lt; omega
  low := fun j hj => by
    rw [filter_at hm, if_pos hk]
    by_cases e : j = k
    · subst e
      rw [List.getElem?_append_right (by rw [h.len]; exact Nat.le_refl _), h.len, Nat.sub_self, getElem!_set_same dk j _ (by have := h.lt; have := h.size; omega)]
      rfl
    · rw [List.getElem?_append_left (by rw [h.len]; omega), h.low j (by omega), getElem!_set_other dk k j _ e]
  high := fun j hj => by rw [getElem!_set_other dk k j _ (by omega), h.high j (by omega)]
theorem DelInv.skip (h : DelInv q d m k dk) (hm : m < d.size) (hk : q d[m]! = false) : DelInv q d (m + 1) k dk where
  size := h.size
  len := by rw [filter_at hm, if_neg (by simp [hk])]; simpa using h.len
  lt := by have := h.lt; omega
  low := fun j hj => by rw [filter_at hm, if_neg (by simp [hk])]; simpa using h.low j hj
  high := h.high
theorem DelInv.fin (h : DelInv q d d.size k dk) : d.toList.filter q = dk.toList.take k := by
  have hl := h.len
  rw [List.take_of_length_le (by simp)] at hl
  have hlow := h.low
  rw [List.take_of_length_le (by simp)] at hlow
  have := h.size
  have := h.lt
  apply List.ext_getElem?
  intro j
  by_cases hj : j < k
  · rw [hlow j hj, List.getElem?_take_of_lt hj, Array.getElem?_toList, Array.getElem?_eq_getElem (by omega), getElem!_pos dk j (by omega)]
  · rw [List.getElem?_eq_none (by omega), List.getElem?_eq_none (by simp; omega)]
end
end Go.Proofs.Ytignhjfobcnloaa
