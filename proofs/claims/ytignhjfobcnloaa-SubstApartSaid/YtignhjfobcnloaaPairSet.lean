/- A map from pairs to bools that the call itself makes, as the set of its keys. -/
import Derived.Test.YtignhjfobcnloaaSubOrd
import Derived.Test.YtignhjfobcnloaaMapSet
import Derived.DeepKeys5
namespace Go.Proofs.Ytignhjfobcnloaa
open Go.RowKit Go.Maps
theorem pairRow : (39 : TypeId) < Try.prog.types.size := of_decide_eq_true (by kernel_rfl)
theorem pairKeys : Keyed Try.prog 39 := Keyed.of_law (deep_law_laid (by kernel_rfl) (m := 3) (by omega) pairRow (by kernel_rfl) (by kernel_rfl))
def keyL (p : PairD) : Lit := .string (keyBytes [.string p.1, .string p.2])
theorem lt_ex {a n : Nat} (h : a < n) : ∃ m, n = m + 1 := ⟨n - 1, by omega⟩
theorem pairCells_of : Try.prog.cellsOf 39 = 2 := by kernel_rfl
theorem strCells_of : Try.prog.cellsOf 9 = 1 := by kernel_rfl
theorem keyOf_pairV (p : PairD) (h1 : p.1.length ≤ maxLen) (h2 : p.2.length ≤ maxLen) : keyOf Try.prog 39 (pairV p) = some (keyL p) := by
  have hk : Try.prog.keyType 39 = true := by kernel_rfl
  have hf : (pairV p).formed Try.prog 39 = true := by simp [pairV, Value.formed, Try.underlying39, pairCells_of]
  have g1 : ByteArray.size ⟨p.1.toArray⟩ ≤ maxLen := by simpa [ByteArray.size] using h1
  have g2 : ByteArray.size ⟨p.2.toArray⟩ ≤ maxLen := by simpa [ByteArray.size] using h2
  unfold keyOf
  rw [hk, hf]
  obtain ⟨m, hm⟩ : ∃ m, Try.prog.types.size = m + 1 := lt_ex pairRow
  rw [hm]
  simp only [Try.underlying39, Bool.and_self, if_true]
  have e1 : (pairV p).cells.toList = [.string ⟨p.1.toArray⟩, .string ⟨p.2.toArray⟩] := rfl
  rw [e1]
  simp [Program.keyLits, Try.underlying39, Try.underlying9, pairCells_of, strCells_of, g1, g2, keyL]
/-- a pair whose words are no longer than the largest slice -/
def okP (p : PairD) : Prop := p.1.length ≤ maxLen ∧ p.2.length ≤ maxLen
theorem keyL_inj {p q : PairD} (hp : okP p) (hq : okP q) (h : keyL p = keyL q) : p = q := by
  have h1 := keyOf_pairV p hp.1 hp.2
  have h2 := keyOf_pairV q hq.1 hq.2
  rw [← h] at h2
  have := pairKeys.inj h1 h2
  unfold pairV at this
  simp at this
  exact Prod.ext this.1 this.2
/-- block b is the map of which, of all pairs, those in l read true -/
def SetP (w : World) (b n : Nat) (l : List PairD) : Prop :=
  ∃ D, w.ownsMap (H := Unit) Try.prog 39 (plainElem Try.prog 4) b n D ∧ ∀ q, okP q → D.atKey (keyL q) (.lit (.bool false)) = .lit (.bool (decide (q ∈ l)))
theorem SetP.new (w : World) : SetP (w.alloc (.map #[] 0)) w.heap.size 0 [] := ⟨_, World.ownsMap_made _ _ _ _, fun q _ => by simp [DataW.atKey]⟩
theorem SetP.lt {w : World} {b n : Nat} {l : List PairD} (h : SetP w b n l) : b < w.heap.size := by obtain ⟨D, h, _⟩ := h; exact h.lt
theorem SetP.kept {w w' : World} {b n : Nat} {l : List PairD} {row : Option Nat} (h : SetP w b n l) (hg : w.grownBy w' row) (hne : some b ≠ row) : SetP w' b n l := by
  obtain ⟨D, h, hf⟩ := h
  exact ⟨D, h.kept hg hne, hf⟩
theorem SetP.below {w w' : World} {b n : Nat} {l : List PairD} (h : SetP w b n l) (hb : Below w.heap.size w w') : SetP w' b n l :=
  h.kept (row := none) ⟨hb.os, hb.tape, hb.output, hb.size, fun k hk _ => hb.block k hk⟩ (by simp)
theorem SetP.same {w w' : World} {b n : Nat} {l : List PairD} (h : SetP w b n l) (hb : ∀ es c, w.heap[b]? = some (.map es c) → w'.heap[b]? = some (.map es c)) : SetP w' b n l := by
  obtain ⟨D, ⟨es, clock, hh, hr⟩, hf⟩ := h
  exact ⟨D, ⟨es, clock, hb _ _ hh, hr⟩, hf⟩
theorem SetP.look {w : World} {b n : Nat} {l : List PairD} (h : SetP w b n l) (q : PairD) (hq : okP q) :
    (Instr.lookup 115 (.map (some b)) (.agg #[.string ⟨q.1.toArray⟩, .string ⟨q.2.toArray⟩]) false).run Try.prog w = .ok (.bool (decide (q ∈ l))) w := by
  obtain ⟨D, h, hf⟩ := h
  obtain ⟨v, ps, hrun, hv⟩ := h.lookup (t := 115) pairKeys Try.underlying115 (z := .bool false) (zd := .lit (.bool false)) (zp := []) (by kernel_rfl) (plainElem_bool Try.underlying4 false) (keyOf_pairV q hq.1 hq.2)
  rw [hf q hq] at hv
  have : v = .bool (decide (q ∈ l)) := plainBool_inv Try.underlying4 hv
  unfold pairV at hrun
  rw [hrun, this]
theorem SetP.put {w : World} {b n : Nat} {l : List PairD} (h : SetP w b n l) (q : PairD) (hq : okP q) (hl : n < maxLen) :
    ∃ w', (Instr.mapUpdate 115 (.map (some b)) (.agg #[.string ⟨q.1.toArray⟩, .string ⟨q.2.toArray⟩]) (.bool true)).run Try.prog w = .ok () w' ∧ SetP w' b (n + 1) (l ++ [q]) ∧ w.grownBy w' (some b) := by
  obtain ⟨D, h, hf⟩ := h
  have hm := h.isMap
  obtain ⟨w', hrun, hown, hg⟩ := h.update (t := 115) (e := 4) pairKeys Try.underlying115 hl (keyOf_pairV q hq.1 hq.2) (plainElem_bool Try.underlying4 true)
  refine ⟨w', hrun, ⟨_, hown, fun r hr => ?_⟩, hg⟩
  by_cases e : r = q
  · subst e
    rw [atKey_put_same hm (show WideAt.IsKeyLit (keyL r) from trivial)]
    simp
  · rw [atKey_put_other (fun h2 => e (keyL_inj hr hq h2)), hf r hr]
    simp [e]
end Go.Proofs.Ytignhjfobcnloaa
