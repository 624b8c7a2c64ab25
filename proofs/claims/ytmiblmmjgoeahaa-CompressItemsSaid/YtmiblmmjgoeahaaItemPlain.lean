/- The items of a compressed proof, as a plain function. -/
import Derived.Test.YtmiblmmjgoeahaaNamesPlain
namespace Go.Proofs.Ytmiblmmjgoeahaa
/-- an item: its label, the index that it repeats, unknown, saved -/
abbrev ItemD := List UInt8 × Int × Bool × Bool
/-- one number: the items and the saved indices behind it -/
def istep (hyps labels : List (List UInt8)) (out : List ItemD) (saved : List Int) (n : Int) : Option (List ItemD × List Int) :=
  if n = 0 then some (out.dropLast ++ (out.getLast?.map fun x => (x.1, x.2.1, x.2.2.1, true)).toList, saved ++ [(out.length : Int) - 1])
  else if n = -1 then some (out ++ [([], -1, true, false)], saved)
  else if n ≤ hyps.length then some (out ++ [(hyps.getD (n.toNat - 1) [], -1, false, false)], saved)
  else if n ≤ hyps.length + labels.length then some (out ++ [(labels.getD (n.toNat - hyps.length - 1) [], -1, false, false)], saved)
  else if n ≤ hyps.length + labels.length + saved.length then some (out ++ [([], saved.getD (n.toNat - hyps.length - labels.length - 1) 0, false, false)], saved)
  else none
def irun (hyps labels : List (List UInt8)) (out : List ItemD) (saved : List Int) : List Int → Option (List ItemD)
  | [] => some out
  | n :: t => match istep hyps labels out saved n with
    | none => none
    | some p => irun hyps labels p.1 p.2 t
theorem irun_go {hyps labels : List (List UInt8)} {out out' : List ItemD} {saved saved' : List Int} {n : Int} {t : List Int} (h : istep hyps labels out saved n = some (out', saved')) : irun hyps labels out saved (n :: t) = irun hyps labels out' saved' t := by simp [irun, h]
theorem irun_bad {hyps labels : List (List UInt8)} {out : List ItemD} {saved : List Int} {n : Int} {t : List Int} (h : istep hyps labels out saved n = none) : irun hyps labels out saved (n :: t) = none := by simp [irun, h]
/-- the items and the code that Items returns -/
def itemsS (hyps labels : List (List UInt8)) (nums : List Int) : List ItemD × Int :=
  if ¬ namesS labels ∨ ∃ s ∈ hyps, s ∈ labels then ([], 20)
  else if ¬ rightS none nums then ([], 21)
  else match irun hyps labels [] [] nums with
    | none => ([], 21)
    | some out => if 2000 < out.length then ([], 10) else (out, 0)
/-- behind k numbers -/
structure IAt (hyps labels : List (List UInt8)) (nums : List Int) (k : Nat) (out : List ItemD) (saved : List Int) : Prop where
  le : k ≤ nums.length
  ol : out.length ≤ k
  sl : saved.length ≤ k
  all : irun hyps labels [] [] nums = irun hyps labels out saved (nums.drop k)
  ne : (∃ j n, j < k ∧ nums[j]? = some n ∧ n ≠ 0) → out ≠ []
theorem IAt.start (hyps labels : List (List UInt8)) (nums : List Int) : IAt hyps labels nums 0 [] [] := ⟨Nat.zero_le _, Nat.le_refl _, Nat.le_refl _, by simp, by rintro ⟨j, n, hj, _⟩; omega⟩
section
variable {hyps labels : List (List UInt8)} {nums : List Int} {k : Nat} {out : List ItemD} {saved : List Int} {n : Int}
theorem drop_at (hn : nums[k]? = some n) : nums.drop k = n :: nums.drop (k + 1) := by
  obtain ⟨hk, e⟩ := List.getElem?_eq_some_iff.1 hn
  rw [List.drop_eq_getElem_cons hk, e]
theorem IAt.bad (h : IAt hyps labels nums k out saved) (hn : nums[k]? = some n) (hs : istep hyps labels out saved n = none) : irun hyps labels [] [] nums = none := by
  rw [h.all, drop_at hn, irun_bad hs]
theorem IAt.push (h : IAt hyps labels nums k out saved) (hn : nums[k]? = some n) {x : ItemD} (hs : istep hyps labels out saved n = some (out ++ [x], saved)) : IAt hyps labels nums (k + 1) (out ++ [x]) saved :=
  ⟨(List.getElem?_eq_some_iff.1 hn).1, by simp; exact h.ol, by have := h.sl; omega, by rw [h.all, drop_at hn, irun_go hs], fun _ => by simp⟩
theorem IAt.save (h : IAt hyps labels nums k out saved) (hn : nums[k]? = some 0) {i : List ItemD} {x : ItemD} (ho : out = i ++ [x]) :
    IAt hyps labels nums (k + 1) (i ++ [(x.1, x.2.1, x.2.2.1, true)]) (saved ++ [(i.length : Int)]) := by
  subst ho
  refine ⟨(List.getElem?_eq_some_iff.1 hn).1, by have := h.ol; simp at this ⊢; omega, by simp; exact h.sl, ?_, fun _ => by simp⟩
  rw [h.all, drop_at hn, irun_go (out' := i ++ [(x.1, x.2.1, x.2.2.1, true)]) (saved' := saved ++ [(i.length : Int)])]
  simp [istep]
theorem IAt.last (h : IAt hyps labels nums k out saved) (hr : rightS none nums) (hn : nums[k]? = some 0) : ∃ i x, out = i ++ [x] := by
  have h1 := (rightS_iff nums none).1 hr k 0 hn
  obtain ⟨m, hm, h2⟩ := h1.2.2 rfl
  by_cases hk : k = 0
  · simp [hk] at hm
  · rw [if_neg hk] at hm
    have h3 := h.ne ⟨k - 1, m, by omega, hm, by omega⟩
    exact ⟨out.dropLast, out.getLast h3, (List.dropLast_concat_getLast h3).symm⟩
theorem IAt.fin (h : IAt hyps labels nums nums.length out saved) : irun hyps labels [] [] nums = some out := by
  rw [h.all, List.drop_length]; rfl
theorem istep_unknown : istep hyps labels out saved (-1) = some (out ++ [([], -1, true, false)], saved) := by simp [istep]
theorem istep_hyp {s : List UInt8} (h1 : 1 ≤ n) (h2 : n ≤ hyps.length) (hs : hyps[n.toNat - 1]? = some s) : istep hyps labels out saved n = some (out ++ [(s, -1, false, false)], saved) := by
  unfold istep
  rw [if_neg (by omega), if_neg (by omega), if_pos h2]
  simp [hs]
theorem istep_label {s : List UInt8} (h1 : 1 ≤ n) (h2 : ¬ n ≤ hyps.length) (h3 : n ≤ hyps.length + labels.length) (hs : labels[n.toNat - hyps.length - 1]? = some s) : istep hyps labels out saved n = some (out ++ [(s, -1, false, false)], saved) := by
  unfold istep
  rw [if_neg (by omega), if_neg (by omega), if_neg h2, if_pos h3]
  simp [hs]
theorem istep_back {b : Int} (h1 : 1 ≤ n) (h2 : ¬ n ≤ hyps.length) (h3 : ¬ n ≤ hyps.length + labels.length) (h4 : n ≤ hyps.length + labels.length + saved.length) (hs : saved[n.toNat - hyps.length - labels.length - 1]? = some b) :
    istep hyps labels out saved n = some (out ++ [([], b, false, false)], saved) := by
  unfold istep
  rw [if_neg (by omega), if_neg (by omega), if_neg h2, if_neg h3, if_pos h4]
  simp [hs]
theorem istep_none (h1 : 1 ≤ n) (h2 : ¬ n ≤ hyps.length) (h3 : ¬ n ≤ hyps.length + labels.length) (h4 : ¬ n ≤ hyps.length + labels.length + saved.length) : istep hyps labels out saved n = none := by
  unfold istep
  rw [if_neg (by omega), if_neg (by omega), if_neg h2, if_neg h3, if_neg h4]
theorem itemsS_list (h : ¬ namesS labels ∨ ∃ s ∈ hyps, s ∈ labels) : itemsS hyps labels nums = ([], 20) := by unfold itemsS; rw [if_pos h]
theorem itemsS_code (h : ¬ (¬ namesS labels ∨ ∃ s ∈ hyps, s ∈ labels)) (h2 : ¬ rightS none nums) : itemsS hyps labels nums = ([], 21) := by unfold itemsS; rw [if_neg h, if_pos h2]
theorem itemsS_none (h : ¬ (¬ namesS labels ∨ ∃ s ∈ hyps, s ∈ labels)) (h2 : rightS none nums) (h3 : irun hyps labels [] [] nums = none) : itemsS hyps labels nums = ([], 21) := by unfold itemsS; rw [if_neg h, if_neg (fun h => h h2), h3]
theorem itemsS_steps (h : ¬ (¬ namesS labels ∨ ∃ s ∈ hyps, s ∈ labels)) (h2 : rightS none nums) (h3 : irun hyps labels [] [] nums = some out) (h4 : 2000 < out.length) : itemsS hyps labels nums = ([], 10) := by
  unfold itemsS; rw [if_neg h, if_neg (fun h => h h2), h3]; simp [h4]
theorem itemsS_ok (h : ¬ (¬ namesS labels ∨ ∃ s ∈ hyps, s ∈ labels)) (h2 : rightS none nums) (h3 : irun hyps labels [] [] nums = some out) (h4 : ¬ 2000 < out.length) : itemsS hyps labels nums = (out, 0) := by
  unfold itemsS; rw [if_neg h, if_neg (fun h => h h2), h3]; simp [h4]
end
end Go.Proofs.Ytmiblmmjgoeahaa
