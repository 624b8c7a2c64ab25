/- Unmark of the reference. -/
import Derived.Test.YthkeggmloajapaaRefMark3
import Derived.Test.YthkeggmloajapaaRefMark2
import Derived.Test.YthkeggmloajapaaMarkUn
import Derived.Deep.RegionHeld3
import Derived.Deep.DrawnRows
namespace Go.Proofs.Ythkeggmloajapaa
open Go.RowKit
attribute [local go_sem ↓] Go.wp_at_zero Go.wp_at_succ
theorem fit_form : ∀ (l : List MarkD) (b : MarkD), fitL b l = true → ∀ m ∈ l, formM m = true
  | [], _, _, m, hm => absurd hm (by simp)
  | x :: l, b, h, m, hm => by
    rw [fitL] at h
    simp only [Bool.and_eq_true] at h
    rcases List.mem_cons.1 hm with rfl | hm
    · exact h.1.1
    · exact fit_form l x h.2 m hm
theorem flat_writeM : ∀ (l : List MarkD), (∀ m ∈ l, formM m = true) → (l.flatMap writeM).length ≤ 4 * (l.flatMap (·.2)).length
  | [], _ => by simp
  | x :: l, h => by
    have h1 := writeM_len x (h x (by simp))
    have h2 := flat_writeM l fun m hm => h m (by simp [hm])
    simp only [List.flatMap_cons, List.length_append]
    omega
theorem dup_take {t : List UInt8} {j : Nat} {b : UInt8} (h : t[j]? = some b) : dupS (t.take (j + 1)) = dupS (t.take j) ++ (if special b then [b, b] else [b]) := by
  rw [take_snoc h]
  simp [dupS]
theorem flat_part (l : List MarkD) (k : Nat) : ((l.take k).flatMap writeM).length ≤ (l.flatMap writeM).length := by
  conv => rhs; rw [← List.take_append_drop k l]
  rw [List.flatMap_append, List.length_append]
  omega
theorem dup_part (t : List UInt8) (j : Nat) : (dupS (t.take j)).length ≤ (dupS t).length := by
  conv => rhs; rw [← List.take_append_drop j t]
  rw [dup_app, List.length_append]
  omega
theorem ret_measure {n i : Nat} (z : Int) (hz : z = ((i + 1 : Nat) : Int)) (h : i < n) : n - (intOf (.int .i64 z)).toNat < n - (intOf (.int .i64 (i : Int))).toNat := by
  subst hz
  simp only [intOf]
  omega
end Go.Proofs.Ythkeggmloajapaa
