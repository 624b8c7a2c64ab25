/- What Write returns for a code, as a plain function. -/
import Derived.Test.YtmiblmmjgoeahaaReadPlain
namespace Go.Proofs.Ytmiblmmjgoeahaa
/-- the letters of one number of a code -/
def letN (n : Int) : List UInt8 := if n = 0 then [90] else if n = -1 then [63] else lettersS n.toNat
/-- the letters of all numbers -/
def letNs (l : List Int) : List UInt8 := l.flatMap letN
/-- a text in pieces of k bytes -/
def chunks (k : Nat) (s : List UInt8) : List (List UInt8) := if s = [] ∨ k = 0 then [] else s.take k :: chunks k (s.drop k)
termination_by s.length
decreasing_by
  rename_i h
  have h1 : s ≠ [] := fun e => h (.inl e)
  have h2 : 0 < s.length := List.length_pos_iff.2 h1
  have h3 : k ≠ 0 := fun e => h (.inr e)
  simp; omega
theorem chunks_nil (k : Nat) : chunks k [] = [] := by rw [chunks]; simp
theorem chunks_cons {k : Nat} {s : List UInt8} (hk : 0 < k) (hs : s ≠ []) : chunks k s = s.take k :: chunks k (s.drop k) := by
  rw [chunks, if_neg (by rintro (h | h); exact hs h; omega)]
theorem chunks_flat {k : Nat} (hk : 0 < k) : ∀ (n : Nat) (s : List UInt8), s.length ≤ n → (chunks k s).flatten = s := by
  intro n
  induction n with
  | zero => intro s h; obtain rfl : s = [] := List.length_eq_zero_iff.1 (by omega); rw [chunks_nil]; rfl
  | succ n ih =>
    intro s h
    by_cases h0 : s = []
    · rw [h0, chunks_nil]; rfl
    · rw [chunks_cons hk h0, List.flatten_cons, ih _ (by have := List.length_pos_iff.2 h0; simp; omega), List.take_append_drop]
theorem chunks_len {k : Nat} (hk : 0 < k) : ∀ (n : Nat) (s : List UInt8), s.length ≤ n → (chunks k s).length ≤ s.length := by
  intro n
  induction n with
  | zero => intro s h; obtain rfl : s = [] := List.length_eq_zero_iff.1 (by omega); rw [chunks_nil]; simp
  | succ n ih =>
    intro s h
    by_cases h0 : s = []
    · rw [h0, chunks_nil]; simp
    · have hp := List.length_pos_iff.2 h0
      have := ih (s.drop k) (by simp; omega)
      rw [chunks_cons hk h0, List.length_cons]
      simp at this ⊢; omega
/-- the words and the code that Write returns -/
def writeS (labels : List (List UInt8)) (nums : List Int) (width : Int) : List (List UInt8) × Int :=
  if ¬ namesS labels then ([], 20) else if ¬ rightS none nums then ([], 21) else if 40000 < (letNs nums).length then ([], 4)
  else ([40] :: labels ++ [[41]] ++ chunks (max width 1).toNat (letNs nums), 0)
section
variable {labels : List (List UInt8)} {nums : List Int} {width : Int}
theorem writeS_names (h : ¬ namesS labels) : writeS labels nums width = ([], 20) := by unfold writeS; rw [if_pos h]
theorem writeS_right (h : namesS labels) (h2 : ¬ rightS none nums) : writeS labels nums width = ([], 21) := by unfold writeS; rw [if_neg (fun hh => hh h), if_pos h2]
theorem writeS_size (h : namesS labels) (h2 : rightS none nums) (h3 : 40000 < (letNs nums).length) : writeS labels nums width = ([], 4) := by
  unfold writeS; rw [if_neg (fun hh => hh h), if_neg (fun hh => hh h2), if_pos h3]
theorem writeS_ok (h : namesS labels) (h2 : rightS none nums) (h3 : ¬ 40000 < (letNs nums).length) : writeS labels nums width = ([40] :: labels ++ [[41]] ++ chunks (max width 1).toNat (letNs nums), 0) := by
  unfold writeS; rw [if_neg (fun hh => hh h), if_neg (fun hh => hh h2), if_neg h3]
end
theorem lets_len : ∀ (n r : Nat), r ≤ n → (lets r).length ≤ r := by
  intro n
  induction n with
  | zero => intro r h; obtain rfl : r = 0 := by omega
            rw [lets_zero]; simp
  | succ n ih =>
    intro r h
    by_cases h0 : r = 0
    · rw [h0, lets_zero]; simp
    · rw [lets_pos (by omega), List.length_append]
      have := ih ((r - 1) / 5) (by omega)
      simp; omega
theorem letN_len {n : Int} (h : n ≤ 1000000) : (letN n).length ≤ 1000000 := by
  unfold letN
  split
  · simp
  · split
    · simp
    · unfold lettersS
      have := lets_len _ ((n.toNat - 1) / 20) (Nat.le_refl _)
      simp; omega
theorem letNs_snoc {nums : List Int} {k : Nat} {n : Int} (hn : nums[k]? = some n) : letNs (nums.take (k + 1)) = letNs (nums.take k) ++ letN n := by
  unfold letNs
  rw [List.take_add_one, hn, List.flatMap_append]
  simp
theorem letNs_take_le (nums : List Int) (k : Nat) : (letNs (nums.take k)).length ≤ (letNs nums).length := by
  conv => rhs; rw [← List.take_append_drop k nums]
  unfold letNs
  rw [List.flatMap_append, List.length_append]; omega
end Go.Proofs.Ytmiblmmjgoeahaa
