/- Whether a label in the brackets is that of a mandatory hypothesis. -/
import Derived.Test.YtpmbfcogkoiogaaDoorStrA
namespace Go.Proofs.YtpmbfcogkoiogaaDoor
open Go.RowKit
/-- the slice value v reads as hypotheses with the labels l -/
def HypL (w : World) (v : Value) (l : List (List UInt8)) : Prop :=
  ∃ A c, v = .slice A l.length c ∧ l.length ≤ c ∧ l.length ≤ maxLen ∧
    (∀ (k : Nat) (s : List UInt8), l[k]? = some s → ∃ b o fl ta tn tc, A = some ⟨b, o, none⟩ ∧ w.cell? ⟨b, o + k * 3, none⟩ = some (.string ⟨s.toArray⟩) ∧ w.cell? ⟨b, o + k * 3 + 1, none⟩ = some (.bool fl) ∧ w.cell? ⟨b, o + k * 3 + 2, none⟩ = some (.slice ta tn tc))
theorem HypL.below {w w' : World} {v : Value} {l : List (List UInt8)} (h : HypL w v l) (hb : Below w.heap.size w w') : HypL w' v l := by
  obtain ⟨A, c, hv, hc, hm, hx⟩ := h
  refine ⟨A, c, hv, hc, hm, fun k s hs => ?_⟩
  obtain ⟨b, o, fl, ta, tn, tc, ha, h1, h2, h3⟩ := hx k s hs
  exact ⟨b, o, fl, ta, tn, tc, ha, (hb.cell (block_lt_of_cell h1)).trans h1, (hb.cell (block_lt_of_cell h2)).trans h2, (hb.cell (block_lt_of_cell h3)).trans h3⟩
/-- the cells of a frame whose hypotheses are the value hv -/
def frameCells (c0 c1 hv c3 c4 c5 c6 c7 : Value) : Array Value := #[c0, c1, hv, c3, c4, c5, c6, c7]
end Go.Proofs.YtpmbfcogkoiogaaDoor
