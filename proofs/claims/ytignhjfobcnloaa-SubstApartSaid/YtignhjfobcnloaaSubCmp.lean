/- compare of the program. -/
import Derived.Test.YtignhjfobcnloaaSubGrown
import Derived.Deep.RegionHeld3
import Derived.Deep.DrawnRows
namespace Go.Proofs.Ytignhjfobcnloaa
open Go.RowKit
attribute [local go_sem ↓] Go.wp_at_zero Go.wp_at_succ
set_option maxRecDepth 20000 in
set_option maxHeartbeats 4000000 in
theorem compare_any (w : World) (p q : PairD) : Calls Try.prog 55 #[pairV p, pairV q] w fun e w' => e = .returned (.int .i64 (cmpP p q)) ∧ ∃ n os, w' = Sort.grow (w.drewN n) os := by
  obtain ⟨a, b⟩ := p
  obtain ⟨c, d⟩ := q
  unfold pairV
  go_enter Try.func55, Try.ntmps55
  go_wp2
  go_region_held3 (fun w' => w'.cell? ⟨w.heap.size, 0, none⟩ = some (.string ⟨a.toArray⟩) ∧ w'.cell? ⟨w.heap.size, 1, none⟩ = some (.string ⟨b.toArray⟩) ∧ w'.cell? ⟨w.heap.size + 1, 0, none⟩ = some (.string ⟨c.toArray⟩) ∧ w'.cell? ⟨w.heap.size + 1, 1, none⟩ = some (.string ⟨d.toArray⟩)) (go_keep)
    (first
    | (go_at_call 89; (refine (compare_str _ _ _).mono ?_; rintro e w1 ⟨rfl, rfl⟩))
    | (go_at_call 88; (refine (or_cmp _ _ (a, b) (c, d) (ints_two_d _ _ _ _ ?hg)).mono ?_; (case hg => simp); rintro e w1 ⟨rfl, rfl⟩)))
  all_goals go_wp2
  all_goals go_ret
  all_goals exact ⟨rfl, 1, _, grown_three _ _ _ _⟩
end Go.Proofs.Ytignhjfobcnloaa
