/- Sorted of the program, up to slices.Compact. -/
import Derived.Test.YtignhjfobcnloaaSubOrd
import Derived.Test.YtignhjfobcnloaaSorts
import Derived.Deep.LoopGhost
namespace Go.Proofs.Ytignhjfobcnloaa
open Go.RowKit
/-- the slice value v reads as the pairs l -/
def PairsAt (w : World) (v : Value) (l : List PairD) : Prop := Rds w 2 v l.length (l.flatMap pairCells)
theorem pairs_flat_len (l : List PairD) : (l.flatMap pairCells).length = l.length * 2 := by
  induction l with
  | nil => rfl
  | cons a l ih => simp [List.flatMap_cons, ih, pairCells]; omega
theorem pairs_flat_at {l : List PairD} {k : Nat} {x : PairD} (h : l[k]? = some x) : (l.flatMap pairCells)[k * 2]? = some (.string ⟨x.1.toArray⟩) ∧ (l.flatMap pairCells)[k * 2 + 1]? = some (.string ⟨x.2.toArray⟩) := by
  induction l generalizing k with
  | nil => simp at h
  | cons a l ih =>
    cases k with
    | zero => simp at h; subst h; simp [List.flatMap_cons, pairCells]
    | succ k =>
      have := ih (k := k) (by simpa using h)
      rw [List.flatMap_cons, show (k + 1) * 2 = (pairCells a).length + k * 2 by simp [pairCells]; omega]
      rw [List.getElem?_append_right (by omega), List.getElem?_append_right (by omega)]
      simpa [Nat.add_assoc] using this
theorem PairsAt.open_ {w : World} {v : Value} {l : List PairD} (h : PairsAt w v l) : ∃ A c, v = .slice A l.length c ∧ l.length ≤ c ∧ l.length ≤ maxLen ∧
    (∀ k x, l[k]? = some x → ∃ b o, A = some ⟨b, o, none⟩ ∧ w.cell? ⟨b, o + k * 2, none⟩ = some (.string ⟨x.1.toArray⟩) ∧ w.cell? ⟨b, o + k * 2 + 1, none⟩ = some (.string ⟨x.2.toArray⟩)) := by
  obtain ⟨A, c, hv, hc, hm, hl, hr⟩ := h
  refine ⟨A, c, hv, hc, hm, fun k x hx => ?_⟩
  have hk : k < l.length := (List.getElem?_eq_some_iff.1 hx).1
  obtain ⟨b, o, ha, hz⟩ := hr (by omega)
  obtain ⟨h1, h2⟩ := pairs_flat_at hx
  exact ⟨b, o, ha, hz _ _ h1, by have := hz _ _ h2; rwa [← Nat.add_assoc] at this⟩
theorem PairsAt.below {w w' : World} {v : Value} {l : List PairD} (h : PairsAt w v l) (hb : Below w.heap.size w w') : PairsAt w' v l := Rds.below h hb
theorem PairsAt.mk {w : World} {A : Option Addr} {l : List PairD} {c : Nat} (hc : l.length ≤ c) (hm : l.length ≤ maxLen)
    (h : ∀ k x, l[k]? = some x → ∃ b o, A = some ⟨b, o, none⟩ ∧ w.cell? ⟨b, o + k * 2, none⟩ = some (.string ⟨x.1.toArray⟩) ∧ w.cell? ⟨b, o + k * 2 + 1, none⟩ = some (.string ⟨x.2.toArray⟩)) : PairsAt w (.slice A l.length c) l := by
  refine ⟨A, c, rfl, hc, hm, pairs_flat_len l, fun hn => ?_⟩
  obtain ⟨b, o, hA, _, _⟩ := h 0 _ (List.getElem?_eq_getElem hn)
  refine ⟨b, o, hA, fun j u hu => ?_⟩
  have hj : j < (l.flatMap pairCells).length := (List.getElem?_eq_some_iff.1 hu).1
  rw [pairs_flat_len] at hj
  have hd : j / 2 < l.length := by omega
  obtain ⟨b', o', hA', g1, g2⟩ := h (j / 2) _ (List.getElem?_eq_getElem hd)
  obtain ⟨rfl, rfl⟩ := (by simpa [hA] using hA' : b = b' ∧ o = o')
  obtain ⟨f1, f2⟩ := pairs_flat_at (List.getElem?_eq_getElem hd)
  rcases (show j % 2 = 0 ∨ j % 2 = 1 by omega) with e | e
  · have ej : j = j / 2 * 2 := by omega
    rw [ej] at hu ⊢
    rw [f1] at hu
    injection hu with hu
    rw [← hu]
    have : j / 2 * 2 / 2 = j / 2 := by omega
    simpa using g1
  · have ej : j = j / 2 * 2 + 1 := by omega
    rw [ej] at hu ⊢
    rw [f2] at hu
    injection hu with hu
    rw [← hu, ← Nat.add_assoc]
    exact g2
/-- runs of equal elements, each once -/
def compactS : List PairD → List PairD
  | [] => []
  | [x] => [x]
  | x :: y :: r => if x = y then compactS (y :: r) else x :: compactS (y :: r)
def sortedS (l : List PairD) : List PairD := compactS ((l.map orderedS).mergeSort fun x y => !(ltOf cmpP) y x)
theorem pltof (p q : PairD) : ltOf cmpP p q = decide (p.1 < q.1 ∨ (p.1 = q.1 ∧ p.2 < q.2)) := by
  unfold ltOf cmpP
  rw [decide_eq_decide]
  by_cases h1 : p.1 < q.1
  · simp [cmpS_lt h1, h1]
  · by_cases h2 : q.1 < p.1
    · have : p.1 ≠ q.1 := fun e => by rw [e] at h2; exact List.lt_irrefl _ h2
      simp [cmpS_gt h1 h2, h1, this]
    · have he := lt_tri h1 h2
      rw [cmpS_eq h1 h2]
      by_cases h3 : p.2 < q.2
      · simp [cmpS_lt h3, h3, he]
      · by_cases h4 : q.2 < p.2
        · simp [cmpS_gt h3 h4, h1, h3]
        · simp [cmpS_eq h3 h4, h1, h3]
theorem plt_trans {x y z : PairD} (h1 : x.1 < y.1 ∨ (x.1 = y.1 ∧ x.2 < y.2)) (h2 : y.1 < z.1 ∨ (y.1 = z.1 ∧ y.2 < z.2)) : x.1 < z.1 ∨ (x.1 = z.1 ∧ x.2 < z.2) := by
  rcases h1 with h1 | ⟨h1, h1'⟩ <;> rcases h2 with h2 | ⟨h2, h2'⟩
  · exact .inl (List.lt_trans h1 h2)
  · exact .inl (by rw [← h2]; exact h1)
  · exact .inl (by rw [h1]; exact h2)
  · exact .inr ⟨h1.trans h2, List.lt_trans h1' h2'⟩
theorem plt_irrefl (x : PairD) : ¬ (x.1 < x.1 ∨ (x.1 = x.1 ∧ x.2 < x.2)) := by
  rintro (h | ⟨_, h⟩) <;> exact List.lt_irrefl _ h
theorem plt_tri {x y : PairD} (h1 : ¬ (x.1 < y.1 ∨ (x.1 = y.1 ∧ x.2 < y.2))) (h2 : ¬ (y.1 < x.1 ∨ (y.1 = x.1 ∧ y.2 < x.2))) : x = y := by
  have a : x.1 = y.1 := lt_tri (fun h => h1 (.inl h)) (fun h => h2 (.inl h))
  exact Prod.ext a (lt_tri (fun h => h1 (.inr ⟨a, h⟩)) (fun h => h2 (.inr ⟨a.symm, h⟩)))
theorem swoP : Sort.SWO (ltOf cmpP) where
  irrefl x := by rw [pltof]; exact decide_eq_false (plt_irrefl x)
  trans x y z h1 h2 := by rw [pltof] at *; exact decide_eq_true (plt_trans (of_decide_eq_true h1) (of_decide_eq_true h2))
  ntrans x y z h1 h2 := by
    rw [pltof] at *
    refine decide_eq_false fun h => ?_
    have h1 := of_decide_eq_false h1
    have h2 := of_decide_eq_false h2
    by_cases e : y = x
    · subst e; exact h2 h
    · have h3 : y.1 < x.1 ∨ (y.1 = x.1 ∧ y.2 < x.2) := Classical.byContradiction fun hn => e (plt_tri hn h1)
      exact h2 (plt_trans h3 h)
theorem totP (x y : PairD) (h1 : ltOf cmpP x y = false) (h2 : ltOf cmpP y x = false) : x = y := by
  rw [pltof] at *
  exact plt_tri (of_decide_eq_false h1) (of_decide_eq_false h2)
end Go.Proofs.Ytignhjfobcnloaa
