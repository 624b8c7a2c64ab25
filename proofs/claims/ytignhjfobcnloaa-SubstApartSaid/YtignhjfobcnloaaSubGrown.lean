/- Three blocks and a draw, as a world that has grown. -/
import Derived.Test.YtignhjfobcnloaaSubOrd
namespace Go.Proofs.Ytignhjfobcnloaa
open Go.RowKit Go.Sort
theorem grown_three (w : World) (a b c : Obj) : (((w.alloc a).alloc b).alloc c).drew = Sort.grow (w.drewN 1) #[a, b, c] := by
  rw [alloc_eq_grow, alloc_eq_grow, alloc_eq_grow, grow_grow, grow_grow]
  rfl
end Go.Proofs.Ytignhjfobcnloaa
