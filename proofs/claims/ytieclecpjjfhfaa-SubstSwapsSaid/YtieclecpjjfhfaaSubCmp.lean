/- compare of the program. -/
import Derived.Test.YtieclecpjjfhfaaSubGrown
import Derived.Deep.RegionWith
namespace Go.Proofs.Ytieclecpjjfhfaa
open Go.RowKit
set_option maxRecDepth 20000 in
set_option maxHeartbeats 40000000 in
theorem compare_any (w : World) (p q : PairD) : Calls Try.prog 118 #[pairV p, pairV q] w fun e w' => e = .returned (.int .i64 (cmpP p q)) ∧ ∃ n os, w' = Sort.grow (w.drewN n) os := by
  obtain ⟨a, b⟩ := p
  obtain ⟨c, d⟩ := q
  unfold pairV
  go_enter Try.func118, Try.ntmps118
  go_wp2
  go_region_with (first
    | (go_at_call 157; (refine (compare_str _ _ _).mono ?_; rintro e w1 ⟨rfl, rfl⟩))
    | (go_at_call 156; (refine (or_cmp _ _ (a, b) (c, d) (ints_two_d _ _ _ _ ?hg)).mono ?_; (case hg => simp); rintro e w1 ⟨rfl, rfl⟩)))
  all_goals go_wp2
  all_goals go_ret
  all_goals exact ⟨rfl, 1, _, grown_three _ _ _ _⟩
end Go.Proofs.Ytieclecpjjfhfaa
