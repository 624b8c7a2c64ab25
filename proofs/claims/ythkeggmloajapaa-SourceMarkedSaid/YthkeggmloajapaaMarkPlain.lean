/- The marks of a comment's text, in plain terms. -/
import Derived.Test.YthkeggmloajapaaPlainA
namespace Go.Proofs.Ythkeggmloajapaa
abbrev MarkD := Int × List UInt8
def special (b : UInt8) : Bool := b == 96 || (b == 126 || b == 91)
def citeP (c : UInt8) : Bool := c != 91 && (c != 93 && !sp c)
/-- the length of a citation behind its bracket, 0 for none -/
def citeN (r : List UInt8) : Nat := if r[(r.takeWhile citeP).length]? = some 93 then (r.takeWhile citeP).length else 0
/-- the text of a reference behind its tilde: the white space ahead of it, and its word -/
def refW (r : List UInt8) : Nat := (r.takeWhile sp).length
def refT (r : List UInt8) : List UInt8 := (r.drop (refW r)).takeWhile (fun c => !sp c)
def mathT (r : List UInt8) : List UInt8 := r.takeWhile (fun c => c != 96)
/-- the next mark: its kind, its text, how many bytes it takes -/
def mstep : List UInt8 → Option (Int × List UInt8 × Nat)
  | [] => none
  | b :: r =>
    if special b = true ∧ r.head? = some b then some (1, [b], 2)
    else if b = 96 then (if (mathT r).length = r.length then none else some (2, mathT r, (mathT r).length + 2))
    else if b = 126 then (if refW r = 0 ∨ refT r = [] then none else some (3, refT r, 1 + refW r + (refT r).length))
    else if b = 91 ∧ citeN r ≠ 0 then some (4, r.take (citeN r), citeN r + 2)
    else some (1, [b], 1)
theorem mstep_cons (b : UInt8) (r : List UInt8) : mstep (b :: r) =
    if special b = true ∧ r.head? = some b then some (1, [b], 2)
    else if b = 96 then (if (mathT r).length = r.length then none else some (2, mathT r, (mathT r).length + 2))
    else if b = 126 then (if refW r = 0 ∨ refT r = [] then none else some (3, refT r, 1 + refW r + (refT r).length))
    else if b = 91 ∧ citeN r ≠ 0 then some (4, r.take (citeN r), citeN r + 2)
    else some (1, [b], 1) := rfl
/-- a mark is added; plain text is joined -/
def addM (out : List MarkD) (k : Int) (t : List UInt8) : List MarkD :=
  match out.getLast? with
  | some m => if k = 1 ∧ m.1 = 1 then out.dropLast ++ [(1, m.2 ++ t)] else out ++ [(k, t)]
  | none => out ++ [(k, t)]
def mrun : Nat → List UInt8 → Nat → List MarkD → List MarkD × Nat × Int
  | 0, _, _, out => (out, 0, 0)
  | n + 1, s, i, out => if s = [] then (out, 0, 0) else match mstep s with
    | none => ([], i, 45)
    | some (k, t, c) => mrun n (s.drop c) (i + c) (addM out k t)
def marksS (s : List UInt8) : List MarkD × Nat × Int := if 40000 < s.length then ([], 0, 4) else mrun s.length s 0 []
theorem take_le {α : Type} (p : α → Bool) (l : List α) : (l.takeWhile p).length ≤ l.length := (List.takeWhile_sublist p).length_le
theorem mstep_pos {s : List UInt8} {k : Int} {t : List UInt8} {c : Nat} (h : mstep s = some (k, t, c)) : 1 ≤ c ∧ c ≤ s.length := by
  cases s with
  | nil => cases h
  | cons b r =>
    rw [mstep_cons] at h
    split at h
    · rename_i h1
      cases h
      cases r with
      | nil => simp at h1
      | cons a r => simp
    · split at h
      · split at h
        · cases h
        · rename_i h2
          cases h
          have := take_le (fun c => c != 96) r
          unfold mathT at h2 ⊢
          simp
          omega
      · split at h
        · split at h
          · cases h
          · cases h
            have h2 := take_le sp r
            have h3 := take_le (fun c => !sp c) (r.drop (refW r))
            unfold refT
            unfold refW at h3 ⊢
            simp at h3 ⊢
            omega
        · split at h
          · rename_i h2
            cases h
            have h3 := h2.2
            unfold citeN at h3 ⊢
            split at h3
            · rename_i h4
              have := (List.getElem?_eq_some_iff.1 h4).1
              rw [if_pos h4]
              simp
              omega
            · exact absurd rfl h3
          · cases h
            simp
theorem mrun_fuel : ∀ (n m : Nat) (s : List UInt8) (i : Nat) (out : List MarkD), s.length ≤ n → s.length ≤ m → mrun n s i out = mrun m s i out
  | 0, 0, _, _, _, _, _ => rfl
  | 0, m + 1, s, i, out, h, _ => by
    obtain rfl : s = [] := List.eq_nil_of_length_eq_zero (by omega)
    rw [mrun, mrun, if_pos rfl]
  | n + 1, 0, s, i, out, _, h => by
    obtain rfl : s = [] := List.eq_nil_of_length_eq_zero (by omega)
    rw [mrun, mrun, if_pos rfl]
  | n + 1, m + 1, s, i, out, h1, h2 => by
    rw [mrun, mrun]
    split
    · rfl
    · split
      · rfl
      · rename_i k t c hs
        have := mstep_pos hs
        exact mrun_fuel n m _ _ _ (by rw [List.length_drop]; omega) (by rw [List.length_drop]; omega)
/-- what is left of a text at a place -/
def mrest (s : List UInt8) (i : Nat) (out : List MarkD) : List MarkD × Nat × Int := mrun (s.length - i) (s.drop i) i out
theorem mrest_zero {s : List UInt8} (h : ¬ 40000 < s.length) : marksS s = mrest s 0 [] := by
  unfold marksS mrest
  rw [if_neg h]
  simp
theorem mrest_end {s : List UInt8} {i : Nat} (h : s.length ≤ i) (out : List MarkD) : mrest s i out = (out, 0, 0) := by
  unfold mrest
  rw [show s.length - i = 0 by omega, mrun]
theorem mrest_bad {s : List UInt8} {i : Nat} (hi : i < s.length) {out : List MarkD} (h : mstep (s.drop i) = none) : mrest s i out = ([], i, 45) := by
  unfold mrest
  obtain ⟨n, hn⟩ : ∃ n, s.length - i = n + 1 := ⟨s.length - i - 1, by omega⟩
  rw [hn, mrun, if_neg (by intro e; have := congrArg List.length e; simp at this; omega), h]
theorem mrest_next {s : List UInt8} {i : Nat} {out : List MarkD} {k : Int} {t : List UInt8} {c : Nat} (h : mstep (s.drop i) = some (k, t, c)) : mrest s i out = mrest s (i + c) (addM out k t) := by
  have hp := mstep_pos h
  rw [List.length_drop] at hp
  unfold mrest
  obtain ⟨n, hn⟩ : ∃ n, s.length - i = n + 1 := ⟨s.length - i - 1, by omega⟩
  rw [hn, mrun, if_neg (by intro e; have := congrArg List.length e; simp at this; omega), h]
  dsimp only
  rw [List.drop_drop]
  exact mrun_fuel _ _ _ _ _ (by rw [List.length_drop]; omega) (by rw [List.length_drop]; omega)
/-- how a mark is written -/
def dupS (t : List UInt8) : List UInt8 := t.flatMap fun b => if special b then [b, b] else [b]
def writeM (m : MarkD) : List UInt8 :=
  if m.1 = 1 then dupS m.2 else if m.1 = 2 then 96 :: (m.2 ++ [96]) else if m.1 = 3 then 126 :: 32 :: m.2 else if m.1 = 4 then 91 :: (m.2 ++ [93]) else []
/-- a mark has the form of its kind -/
def formM (m : MarkD) : Bool :=
  !m.2.isEmpty && (if m.1 = 1 then true else if m.1 = 2 then !m.2.any (· == 96) else if m.1 = 3 then !m.2.any sp else if m.1 = 4 then m.2.all citeP else false)
/-- a mark may stand behind another one -/
def fitM (before m : MarkD) : Bool := !(m.1 == 1 && before.1 == 1) && !(before.1 == 3 && (m.1 != 1 || !(m.2.head?.any sp)))
def fitL : MarkD → List MarkD → Bool
  | _, [] => true
  | b, m :: l => formM m && fitM b m && fitL m l
def unmarkS (l : List MarkD) : List UInt8 × Int :=
  if fitL (0, []) l = false then ([], 2) else if 40000 < (l.flatMap writeM).length then ([], 15) else (l.flatMap writeM, 0)
end Go.Proofs.Ythkeggmloajapaa
