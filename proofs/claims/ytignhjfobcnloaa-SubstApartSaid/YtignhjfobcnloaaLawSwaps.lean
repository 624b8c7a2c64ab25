/- SubstSwaps: an exchange of two symbols, done twice; Vars of Apply. -/
import Derived.Test.YtignhjfobcnloaaLawApplies
namespace Go.Proofs.Ytignhjfobcnloaa
open Go.RowKit
theorem apply_sz {l : List BindD} {text : Form} (hl : ∀ x ∈ l, ∀ s ∈ x.2, s.length ≤ maxLen) (ht : ∀ s ∈ text, s.length ≤ maxLen) : ∀ s ∈ applyS text l, s.length ≤ maxLen := by
  intro s hs
  obtain ⟨t, h1, h2⟩ := List.mem_flatMap.1 (show s ∈ text.flatMap (imageS l) from hs)
  rcases image_mem l t with e | ⟨x, hx, e⟩
  · rw [e] at h2; simp at h2; rw [h2]; exact ht t h1
  · rw [e] at h2; exact hl x hx s h2
/-- the variables of the images, one behind the other -/
def allS (l : List BindD) (vs : Form) (text : Form) : Form := text.flatMap fun s => varsS (applyS [s] l) vs
theorem allS_take {l : List BindD} {vs text : Form} {k : Nat} {y : List UInt8} (hy : text[k]? = some y) : allS l vs (text.take (k + 1)) = allS l vs (text.take k) ++ varsS (applyS [y] l) vs := by
  unfold allS; rw [List.take_add_one, hy, List.flatMap_append]; simp
theorem allS_len {l : List BindD} {m : Nat} (h : ∀ x ∈ l, x.2.length ≤ m) (hm : 1 ≤ m) (vs : Form) : ∀ (text : Form), (allS l vs text).length ≤ text.length * m := by
  intro text
  induction text with
  | nil => simp [allS]
  | cons s t ih =>
    have h1 := varsS_len vs (applyS [s] l)
    have h2 := image_len h hm s
    rw [← applyS_one] at h2
    have e : allS l vs (s :: t) = varsS (applyS [s] l) vs ++ allS l vs t := by unfold allS; rw [List.flatMap_cons]
    rw [e, List.length_append, List.length_cons, Nat.add_mul]
    omega
theorem allS_mem {l : List BindD} {vs text : Form} (hv : ∀ s ∈ vs, s.length ≤ maxLen) : ∀ s ∈ allS l vs text, s.length ≤ maxLen := by
  intro s hs
  obtain ⟨t, _, h2⟩ := List.mem_flatMap.1 (show s ∈ text.flatMap _ from hs)
  have := (varsRun_mem vs (applyS [t] l) [] s).1 h2
  exact hv s (by simpa using this.elim (by simp) (fun h => h.2))
def swapS (x y : List UInt8) : List BindD := [(x, [y]), (y, [x])]
theorem swap_bind (w : World) (x y : List UInt8) : BindAt (((w.alloc (.cells #[.string ⟨y.toArray⟩] 9)).alloc (.cells #[.string ⟨x.toArray⟩] 9)).alloc (.cells #[.string ⟨x.toArray⟩, .slice (some ⟨w.heap.size, 0, none⟩) 1 1, .string ⟨y.toArray⟩, .slice (some ⟨w.heap.size + 1, 0, none⟩) 1 1] 28)) (.slice (some ⟨w.heap.size + 1 + 1, 0, none⟩) 2 2) (swapS x y) :=
  BindAt.two (a := x) (b := y) (T := 28) (Row.new' _ _ _ (by simp)) (Strs.of_row (((Row.new' _ _ _ rfl).alloc _).alloc _) rfl rfl (by decide)) (Strs.of_row ((Row.new' _ _ _ (by simp)).alloc _) rfl rfl (by decide))
end Go.Proofs.Ytignhjfobcnloaa
