/- From a law's walk to its statement, where the walk asks that the library's variable MaxLen holds some number. -/
import Derived.Test.YtignhjfobcnloaaLaw
import Derived.HandedShaped
import Derived.Shelf.Vars
namespace Go.Proofs.Ytignhjfobcnloaa
open Go.ChangeShapes Go.WideShapes Go.ChangeAt Go.RowKit
/-- internal/bytealg.MaxLen holds some number -/
def MaxAt (w : World) : Prop := ∃ m, w.cell? ⟨0, 0, none⟩ = some (.int .i64 m)
theorem MaxAt.below {w w' : World} (h : MaxAt w) (hb : Below w.heap.size w w') : MaxAt w' := by
  obtain ⟨m, hm⟩ := h
  exact ⟨m, (hb.cell (p := ⟨0, 0, none⟩) (block_lt_of_cell hm)).trans hm⟩
theorem MaxAt.of_shaped {w : World} (h : w.ShapedOpen Try.prog) : MaxAt w :=
  cell_of_shapedOpen_int (zero := #[.int .i64 0]) (t := 3) h (of_decide_eq_true (by kernel_rfl)) (by kernel_rfl) rfl (by kernel_rfl) (by kernel_rfl) Try.underlying3
end Go.Proofs.Ytignhjfobcnloaa
