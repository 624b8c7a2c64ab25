/- Whether a mark may stand behind another one, by the reference. -/
import Derived.Test.YthkeggmloajapaaRefMark1
namespace Go.Proofs.Ythkeggmloajapaa
open Go.RowKit
theorem within_tick (s : List UInt8) : s.any (withinP false [96]) = s.any (· == 96) := by
  congr 1
  funext b
  simp [withinP]
theorem within_sp (s : List UInt8) : s.any (withinP true []) = s.any sp := by
  congr 1
  funext b
  simp [withinP]
theorem within_cite (s : List UInt8) : (!s.any (withinP true [91, 93])) = s.all citeP := by
  rw [List.all_eq_not_any_not]
  congr 2
  funext b
  unfold withinP citeP
  simp only [Bool.true_and, List.any_cons, List.any_nil, Bool.or_false, bne]
  cases sp b <;> cases (b == 91) <;> cases (b == 93) <;> rfl
end Go.Proofs.Ythkeggmloajapaa
