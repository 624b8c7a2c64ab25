/- The numbers that letters denote, as a plain function on lists of bytes. -/
import Derived.Test.YtmiblmmjgoeahaaLetPlain
namespace Go.Proofs.Ytmiblmmjgoeahaa
/-- one letter b, behind a part r of a number; fresh: directly behind a number: what goes on, and a number that ends here -/
def nstep (r : Nat) (fresh : Bool) (b : UInt8) : Option (Nat × Bool × Option Int) :=
  if 65 ≤ b.toNat ∧ b.toNat ≤ 84 then (if 20 * r + (b.toNat - 65) + 1 ≤ 1000000 then some (0, true, some ((20 * r + (b.toNat - 65) + 1 : Nat) : Int)) else none)
  else if 85 ≤ b.toNat ∧ b.toNat ≤ 89 then (if 5 * r + (b.toNat - 85) + 1 ≤ 1000000 then some (5 * r + (b.toNat - 85) + 1, false, none) else none)
  else if b.toNat = 90 then (if fresh then some (0, false, some 0) else none)
  else if b.toNat = 63 then (if r = 0 then some (0, false, some (-1)) else none)
  else none
/-- the numbers of the letters from place k on, and the place of the first cause of an error -/
def nrun (r : Nat) (fresh : Bool) (k : Nat) : List UInt8 → List Int × Option Nat
  | [] => if r = 0 then ([], none) else ([], some k)
  | b :: t => match nstep r fresh b with
    | none => ([], some k)
    | some (r', f', o) => (o.toList ++ (nrun r' f' (k + 1) t).1, (nrun r' f' (k + 1) t).2)
/-- the list, the place and the code that Numbers returns -/
def numbersS (s : List UInt8) : List Int × Nat × Int :=
  if 40000 < s.length then ([], 0, 4)
  else match (nrun 0 false 0 s).2 with
    | none => ((nrun 0 false 0 s).1, 0, 0)
    | some k => ([], k, 21)
theorem nrun_go {r k : Nat} {f : Bool} {b : UInt8} {t : List UInt8} {r' : Nat} {f' : Bool} {o : Option Int} (h : nstep r f b = some (r', f', o)) :
    nrun r f k (b :: t) = (o.toList ++ (nrun r' f' (k + 1) t).1, (nrun r' f' (k + 1) t).2) := by simp [nrun, h]
theorem nrun_bad {r k : Nat} {f : Bool} {b : UInt8} {t : List UInt8} (h : nstep r f b = none) : nrun r f k (b :: t) = ([], some k) := by simp [nrun, h]
theorem numbersS_big {s : List UInt8} (h : 40000 < s.length) : numbersS s = ([], 0, 4) := by simp [numbersS, h]
theorem numbersS_bad {s : List UInt8} {k : Nat} (h : ¬ 40000 < s.length) (hk : (nrun 0 false 0 s).2 = some k) : numbersS s = ([], k, 21) := by simp [numbersS, h, hk]
theorem numbersS_ok {s : List UInt8} (h : ¬ 40000 < s.length) (hk : (nrun 0 false 0 s).2 = none) : numbersS s = ((nrun 0 false 0 s).1, 0, 0) := by simp [numbersS, h, hk]

/-- behind k letters of s: the part r, whether a number ended just there, the numbers out so far -/
structure NAt (s : List UInt8) (k r : Nat) (f : Bool) (out : List Int) : Prop where
  le : k ≤ s.length
  small : r ≤ 1000000
  len : out.length ≤ k
  all : nrun 0 false 0 s = (out ++ (nrun r f k (s.drop k)).1, (nrun r f k (s.drop k)).2)
  yes : f = true → r = 0 ∧ ∃ i v, out = i ++ [v] ∧ 0 < v
  no : f = false → r = 0 → out = [] ∨ ∃ i v, out = i ++ [v] ∧ v ≤ 0
theorem NAt.start (s : List UInt8) : NAt s 0 0 false [] := ⟨Nat.zero_le _, Nat.zero_le _, by simp, by simp, by simp, fun _ _ => .inl rfl⟩
theorem NAt.cons {s : List UInt8} {k r : Nat} {f : Bool} {out : List Int} (_ : NAt s k r f out) (hk : k < s.length) : s.drop k = s[k] :: s.drop (k + 1) := List.drop_eq_getElem_cons hk
theorem NAt.bad {s : List UInt8} {k r : Nat} {f : Bool} {out : List Int} (h : NAt s k r f out) (hk : k < s.length) (hs : nstep r f s[k] = none) : (nrun 0 false 0 s).2 = some k := by
  rw [h.all, h.cons hk, nrun_bad hs]
theorem NAt.fin {s : List UInt8} {r : Nat} {f : Bool} {out : List Int} (h : NAt s s.length r f out) : nrun 0 false 0 s = (out, if r = 0 then none else some s.length) := by
  rw [h.all, List.drop_length]
  by_cases hr : r = 0 <;> simp [nrun, hr]
theorem NAt.num {s : List UInt8} {k r : Nat} {f : Bool} {out : List Int} {r' : Nat} {f' : Bool} {v : Int} (h : NAt s k r f out) (hk : k < s.length) (hs : nstep r f s[k] = some (r', f', some v)) (hr : r' = 0) (hf : f' = decide (0 < v)) : NAt s (k + 1) r' f' (out ++ [v]) := by
  refine ⟨by omega, by omega, by simp; have := h.len; omega, ?_, fun hy => ⟨hr, out, v, rfl, by simpa [hf] using hy⟩, fun hn _ => .inr ⟨out, v, rfl, by simpa [hf] using hn⟩⟩
  rw [h.all, h.cons hk, nrun_go hs]
  simp
theorem NAt.part {s : List UInt8} {k r : Nat} {f : Bool} {out : List Int} {r' : Nat} (h : NAt s k r f out) (hk : k < s.length) (hs : nstep r f s[k] = some (r', false, none)) (hr : 0 < r') (hr2 : r' ≤ 1000000) : NAt s (k + 1) r' false out := by
  refine ⟨by omega, hr2, by have := h.len; omega, ?_, by simp, fun _ hn => by omega⟩
  rw [h.all, h.cons hk, nrun_go hs]
  simp
theorem nstep_num {r : Nat} {f : Bool} {b : UInt8} (h1 : 65 ≤ b.toNat) (h2 : b.toNat ≤ 84) (h3 : 20 * r + (b.toNat - 65) + 1 ≤ 1000000) : nstep r f b = some (0, true, some ((20 * r + (b.toNat - 65) + 1 : Nat) : Int)) := by
  simp [nstep, h1, h2, h3]
theorem nstep_num_bad {r : Nat} {f : Bool} {b : UInt8} (h1 : 65 ≤ b.toNat) (h2 : b.toNat ≤ 84) (h3 : ¬ 20 * r + (b.toNat - 65) + 1 ≤ 1000000) : nstep r f b = none := by
  simp [nstep, h1, h2, h3]
theorem nstep_part {r : Nat} {f : Bool} {b : UInt8} (h1 : 85 ≤ b.toNat) (h2 : b.toNat ≤ 89) (h3 : 5 * r + (b.toNat - 85) + 1 ≤ 1000000) : nstep r f b = some (5 * r + (b.toNat - 85) + 1, false, none) := by
  have : ¬ b.toNat ≤ 84 := by omega
  simp [nstep, h1, h2, h3, this]
theorem nstep_part_bad {r : Nat} {f : Bool} {b : UInt8} (h1 : 85 ≤ b.toNat) (h2 : b.toNat ≤ 89) (h3 : ¬ 5 * r + (b.toNat - 85) + 1 ≤ 1000000) : nstep r f b = none := by
  have : ¬ b.toNat ≤ 84 := by omega
  simp [nstep, h1, h2, h3, this]
theorem nstep_save {r : Nat} {b : UInt8} (h1 : b.toNat = 90) : nstep r true b = some (0, false, some 0) := by simp [nstep, h1]
theorem nstep_save_bad {r : Nat} {b : UInt8} (h1 : b.toNat = 90) : nstep r false b = none := by simp [nstep, h1]
theorem nstep_unknown {f : Bool} {b : UInt8} (h1 : b.toNat = 63) : nstep 0 f b = some (0, false, some (-1)) := by simp [nstep, h1]
theorem nstep_unknown_bad {r : Nat} {f : Bool} {b : UInt8} (h1 : b.toNat = 63) (hr : r ≠ 0) : nstep r f b = none := by simp [nstep, h1, hr]
theorem nstep_other {r : Nat} {f : Bool} {b : UInt8} (h1 : b.toNat < 65 ∨ 90 < b.toNat) (h2 : b.toNat ≠ 63) : nstep r f b = none := by
  have a1 : ¬ (65 ≤ b.toNat ∧ b.toNat ≤ 84) := by omega
  have a2 : ¬ (85 ≤ b.toNat ∧ b.toNat ≤ 89) := by omega
  have a3 : ¬ b.toNat = 90 := by omega
  simp [nstep, a1, a2, a3, h2]
end Go.Proofs.Ytmiblmmjgoeahaa
