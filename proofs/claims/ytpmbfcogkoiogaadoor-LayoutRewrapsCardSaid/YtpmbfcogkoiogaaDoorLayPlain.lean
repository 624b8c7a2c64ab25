/- Statements from words, words of statements, as plain functions. -/
import Derived.Test.YtpmbfcogkoiogaaDoorPlainA
namespace Go.Proofs.YtpmbfcogkoiogaaDoor
/-- a statement: its kind, its label, its symbols, the words of its proof -/
structure StmD where
  kind : Int
  label : List UInt8
  text : List (List UInt8)
  proof : List (List UInt8)
/-- the keywords -/
def kwL : List (List UInt8) := [[36, 99], [36, 118], [36, 102], [36, 101], [36, 100], [36, 97], [36, 112], [36, 46], [36, 61], [36, 123], [36, 125], [36, 40], [36, 41], [36, 91], [36, 93]]
def isKw (s : List UInt8) : Bool := decide (s ∈ kwL)
/-- the keywords of the kinds 1 to 9 -/
def kindL : List (List UInt8) := [[36, 99], [36, 118], [36, 102], [36, 101], [36, 100], [36, 97], [36, 112], [36, 123], [36, 125]]
def kindS (s : List UInt8) : Nat := if s ∈ kindL then kindL.idxOf s + 1 else 0
def kwN : Nat → List UInt8
  | 1 => [36, 99]
  | 2 => [36, 118]
  | 3 => [36, 102]
  | 4 => [36, 101]
  | 5 => [36, 100]
  | 6 => [36, 97]
  | 7 => [36, 112]
  | 8 => [36, 123]
  | 9 => [36, 125]
  | _ => []
def kwOf (k : Int) : List UInt8 := kwN k.toNat
def labS (k : Int) : Bool := k == 3 || k == 4 || k == 6 || k == 7
def leastS (k : Int) : Nat := if k = 3 then 2 else if k = 8 ∨ k = 9 then 0 else 1
def mostS (k : Int) : Nat := if k = 3 then 2 else if k = 8 ∨ k = 9 then 0 else 200
/-- a word of a proof -/
def prfB (b : UInt8) : Bool := cls b.toNat == 2 || b == 63
def prfS (s : List UInt8) : Bool := s == [40] || s == [41] || (!s.isEmpty && s.all prfB)
/-- within a statement -/
inductive PSt where
  | begin
  | key (label : List UInt8)
  | text (s : StmD)
  | proof (s : StmD)
/-- a word: go on; done; an error (true: where the statement begins) -/
def pstep : PSt → List UInt8 → PSt ⊕ StmD ⊕ (Bool × Int)
  | .begin, w =>
    if kindS w ≠ 0 then
      if labS (kindS w) then .inr (.inr (false, 51))
      else if mostS (kindS w) = 0 then .inr (.inl ⟨kindS w, [], [], []⟩)
      else .inl (.text ⟨kindS w, [], [], []⟩)
    else if isKw w then .inr (.inr (false, 50))
    else if onlyS w [2] then .inl (.key w)
    else .inr (.inr (false, 51))
  | .key l, w =>
    if kindS w = 0 then .inr (.inr (false, 50))
    else if labS (kindS w) then .inl (.text ⟨kindS w, l, [], []⟩)
    else .inr (.inr (true, 51))
  | .text s, w =>
    if w = [36, 46] ∨ w = [36, 61] ∧ s.kind = 7 then
      if s.text.length < leastS s.kind then .inr (.inr (false, 53))
      else if w = [36, 61] then .inl (.proof s)
      else if s.kind = 7 then .inr (.inr (false, 50))
      else .inr (.inl s)
    else if isKw w then .inr (.inr (false, 50))
    else if onlyS w [2, 3] then
      if s.text.length = mostS s.kind then .inr (.inr (false, 53))
      else .inl (.text { s with text := s.text ++ [w] })
    else .inr (.inr (false, 52))
  | .proof s, w =>
    if w = [36, 46] then .inr (.inl s)
    else if isKw w then .inr (.inr (false, 50))
    else if prfS w then .inl (.proof { s with proof := s.proof ++ [w] })
    else .inr (.inr (false, 54))
def prun (at_ : Nat) : PSt → Nat → List (List UInt8) → (StmD × Nat) ⊕ (Nat × Int)
  | _, i, [] => .inr (i, 16)
  | s, i, w :: r => match pstep s w with
    | .inl t => prun at_ t (i + 1) r
    | .inr (.inl x) => .inl (x, i + 1)
    | .inr (.inr (b, z)) => .inr (if b then at_ else i, z)
def readW (ws : List (List UInt8)) (i : Nat) : (StmD × Nat) ⊕ (Nat × Int) := prun i .begin i (ws.drop i)
def parseF (ws : List (List UInt8)) : Nat → Nat → List StmD → List StmD × Nat × Int
  | 0, _, _ => ([], 0, 0)
  | f + 1, i, out =>
    if ws.length ≤ i then (out, 0, 0)
    else if out.length = 2000 then ([], i, 8)
    else match readW ws i with
      | .inr e => ([], e.1, e.2)
      | .inl (x, j) => parseF ws f j (out ++ [x])
def parseS (ws : List (List UInt8)) : List StmD × Nat × Int := if 8000 < ws.length then ([], 0, 4) else parseF ws (ws.length + 1) 0 []
def formedS (x : StmD) : Bool :=
  decide (1 ≤ x.kind ∧ x.kind ≤ 9) && (if labS x.kind then decide (onlyS x.label [2]) else x.label == []) && decide (leastS x.kind ≤ x.text.length ∧ x.text.length ≤ mostS x.kind) && x.text.all (fun w => decide (onlyS w [2, 3])) && x.proof.all prfS && (x.kind == 7 || x.proof == [])
def wordsS (x : StmD) : List (List UInt8) :=
  (if labS x.kind then [x.label] else []) ++ [kwOf x.kind] ++ x.text ++ (if x.kind = 7 then [36, 61] :: x.proof else []) ++ (if mostS x.kind = 0 then [] else [[36, 46]])
def allW (l : List StmD) : List (List UInt8) × Int :=
  if 2000 < l.length then ([], 8) else if l.all formedS then (if 8000 < (l.flatMap wordsS).length then ([], 4) else (l.flatMap wordsS, 0)) else ([], 2)
section
variable {at_ i : Nat} {s t : PSt} {w : List UInt8} {ws : List (List UInt8)}
theorem prun_end {i : Nat} (h : ws.length ≤ i) : prun at_ s i (ws.drop i) = .inr (i, 16) := by
  rw [List.drop_of_length_le h, prun]
theorem prun_go (hw : ws[i]? = some w) (h : pstep s w = .inl t) : prun at_ s i (ws.drop i) = prun at_ t (i + 1) (ws.drop (i + 1)) := by
  obtain ⟨hi, e⟩ := List.getElem?_eq_some_iff.1 hw
  rw [List.drop_eq_getElem_cons hi, e, prun, h]
theorem prun_done {x : StmD} (hw : ws[i]? = some w) (h : pstep s w = .inr (.inl x)) : prun at_ s i (ws.drop i) = .inl (x, i + 1) := by
  obtain ⟨hi, e⟩ := List.getElem?_eq_some_iff.1 hw
  rw [List.drop_eq_getElem_cons hi, e, prun, h]
theorem prun_bad {b : Bool} {z : Int} (hw : ws[i]? = some w) (h : pstep s w = .inr (.inr (b, z))) : prun at_ s i (ws.drop i) = .inr (if b then at_ else i, z) := by
  obtain ⟨hi, e⟩ := List.getElem?_eq_some_iff.1 hw
  rw [List.drop_eq_getElem_cons hi, e, prun, h]
end
theorem prun_le {at_ : Nat} : ∀ (r : List (List UInt8)) (s : PSt) (i : Nat) {x : StmD} {j : Nat}, prun at_ s i r = .inl (x, j) → i < j ∧ j ≤ i + r.length
  | [], s, i, x, j, h => by rw [prun] at h; cases h
  | w :: r, s, i, x, j, h => by
    rw [prun] at h
    split at h
    · have := prun_le r _ _ h
      simp
      omega
    · cases h
      simp
    · cases h
theorem readW_le {ws : List (List UInt8)} {i j : Nat} {x : StmD} (h : readW ws i = .inl (x, j)) (hi : i ≤ ws.length) : i < j ∧ j ≤ ws.length := by
  have := prun_le _ _ _ h
  rw [List.length_drop] at this
  omega
theorem kindS_le (s : List UInt8) : kindS s ≤ 9 := by
  unfold kindS
  split
  · rename_i h
    have := List.idxOf_lt_length_of_mem h
    have : kindL.length = 9 := rfl
    omega
  · omega
theorem kindS_kw {s : List UInt8} (h : kindS s ≠ 0) : isKw s = true := by
  unfold kindS at h
  split at h
  · rename_i hm
    unfold isKw
    apply decide_eq_true
    revert s
    decide
  · exact absurd rfl h
end Go.Proofs.YtpmbfcogkoiogaaDoor
