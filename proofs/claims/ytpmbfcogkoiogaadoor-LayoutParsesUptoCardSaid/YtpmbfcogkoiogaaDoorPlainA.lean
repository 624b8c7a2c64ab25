/- The letters of a number, as a plain list of bytes. Classes of bytes, labels: plain functions. -/

section
namespace Go.Proofs.YtpmbfcogkoiogaaDoor
/-- the letter number k behind the letter b -/
def byteAt (b k : Nat) : UInt8 := UInt8.ofNat (b + k)
/-- the letters U to Y of a number r -/
def lets (r : Nat) : List UInt8 := if r = 0 then [] else lets ((r - 1) / 5) ++ [byteAt 85 ((r - 1) % 5)]
termination_by r
decreasing_by omega
/-- the letters of a number -/
def lettersS (n : Nat) : List UInt8 := lets ((n - 1) / 20) ++ [byteAt 65 ((n - 1) % 20)]
theorem lets_zero : lets 0 = [] := by rw [lets]; simp
theorem lets_pos {r : Nat} (h : 0 < r) : lets r = lets ((r - 1) / 5) ++ [byteAt 85 ((r - 1) % 5)] := by
  rw [lets, if_neg (by omega)]
theorem byteAt_toNat {b k : Nat} (h : b + k < 256) : (byteAt b k).toNat = b + k := by
  unfold byteAt; simp [UInt8.toNat_ofNat']; omega
end Go.Proofs.YtpmbfcogkoiogaaDoor
end
section
namespace Go.Proofs.YtpmbfcogkoiogaaDoor
/-- the class of a byte: 1 white space, 2 a byte of a label, 3 another printable character, 4 the dollar sign, 0 none -/
def cls (b : Nat) : Nat :=
  if b = 32 ∨ (9 ≤ b ∧ b ≤ 13 ∧ b ≠ 11) then 1 else if b = 36 then 4
  else if (48 ≤ b ∧ b ≤ 57) ∨ (65 ≤ b ∧ b ≤ 90) ∨ (97 ≤ b ∧ b ≤ 122) ∨ b = 45 ∨ b = 95 ∨ b = 46 then 2
  else if 32 < b ∧ b ≤ 126 then 3 else 0
theorem cls_le (b : Nat) : cls b ≤ 4 := by
  unfold cls
  split
  · omega
  · split
    · omega
    · split
      · omega
      · split <;> omega
theorem cls_two (b : Nat) : cls b = 2 ↔ (48 ≤ b ∧ b ≤ 57) ∨ (65 ≤ b ∧ b ≤ 90) ∨ (97 ≤ b ∧ b ≤ 122) ∨ b = 45 ∨ b = 95 ∨ b = 46 := by
  unfold cls
  split
  · omega
  · split
    · omega
    · split
      · omega
      · split <;> omega
/-- the string has a permitted length, and bytes of the classes ps alone -/
def onlyS (s : List UInt8) (ps : List Nat) : Prop := s ≠ [] ∧ s.length ≤ 60 ∧ ∀ b ∈ s, cls b.toNat ∈ ps
instance (s : List UInt8) (ps : List Nat) : Decidable (onlyS s ps) := by unfold onlyS; infer_instance
/-- the place of the first x in l; -1: none -/
def indexI {α : Type} [DecidableEq α] (l : List α) (x : α) : Int := if x ∈ l then (l.idxOf x : Nat) else -1
theorem idxOf_at {α : Type} [DecidableEq α] : ∀ (l : List α) (x : α) (k : Nat), l[k]? = some x → (∀ y ∈ l.take k, y ≠ x) → l.idxOf x = k := by
  intro l
  induction l with
  | nil => intro x k h; simp at h
  | cons a l ih =>
    intro x k h hn
    cases k with
    | zero => simp at h; simp [h]
    | succ k =>
      have h1 : a ≠ x := hn a (by simp)
      have h2 := ih x k (by simpa using h) (fun y hy => hn y (by simp [hy]))
      have h3 : (a == x) = false := by simpa using h1
      rw [List.idxOf_cons, h2, h3]
      rfl
theorem indexI_hit {α : Type} [DecidableEq α] {l : List α} {x : α} {k : Nat} (h : l[k]? = some x) (hn : ∀ y ∈ l.take k, y ≠ x) : indexI l x = k := by
  unfold indexI
  rw [if_pos (List.mem_of_getElem? h), idxOf_at l x k h hn]
theorem indexI_miss {α : Type} [DecidableEq α] {l : List α} {x : α} (hn : ∀ y ∈ l, y ≠ x) : indexI l x = -1 := by
  unfold indexI
  rw [if_neg fun h => hn x h rfl]
theorem indexI_ge {α : Type} [DecidableEq α] (l : List α) (x : α) : decide (0 ≤ indexI l x) = decide (x ∈ l) := by
  unfold indexI
  by_cases h : x ∈ l <;> simp [h]
theorem take_snoc {α : Type} {l : List α} {k : Nat} {a : α} (h : l[k]? = some a) : l.take (k + 1) = l.take k ++ [a] := by rw [List.take_add_one, h]; rfl
theorem all_snoc {α : Type} {l : List α} {k : Nat} {a : α} {p : α → Prop} (h : l[k]? = some a) (hn : ∀ y ∈ l.take k, p y) (ha : p a) : ∀ y ∈ l.take (k + 1), p y := by
  rw [take_snoc h]
  intro y hy
  rcases List.mem_append.1 hy with hy | hy
  · exact hn y hy
  · simp at hy; rw [hy]; exact ha
theorem all_of_take {α : Type} {l : List α} {k : Nat} {p : α → Prop} (hk : l.length ≤ k) (hn : ∀ y ∈ l.take k, p y) : ∀ y ∈ l, p y := by rwa [List.take_of_length_le hk] at hn
end Go.Proofs.YtpmbfcogkoiogaaDoor
end
