/- The reference's list of marks: one more mark. -/
import Derived.Test.YthkeggmloajapaaRefMark1
import Derived.Test.YthkeggmloajapaaMarkWr
import Derived.Test.YthkeggmloajapaaCellA
import Derived.Deep.RegionHeld3
import Derived.Deep.DrawnRows
namespace Go.Proofs.Ythkeggmloajapaa
open Go.RowKit
attribute [local go_sem ↓] Go.wp_at_zero Go.wp_at_succ
theorem markC_one (l : List MarkD) : ∀ u ∈ markC l, u.oneCell' = true := by
  intro u hu
  unfold markC at hu
  obtain ⟨m, -, hm⟩ := List.mem_flatMap.1 hu
  simp at hm
  rcases hm with rfl | rfl <;> rfl
/-- what add returns -/
def AddPost (w : World) (l : List MarkD) (e : Ending) (w' : World) : Prop := ∃ v, e = .returned v ∧ Rds w' 2 v l.length (markC l) ∧ Below w.heap.size w w'
theorem rds_front {w : World} {A : Option Addr} {n c : Nat} {l0 : List MarkD} {m : MarkD} (h : Rds w 2 (.slice A (n + 1) c) (n + 1) (markC (l0 ++ [m]))) (hn : l0.length = n) :
    ∃ b o, A = some ⟨b, o, none⟩ ∧ n + 1 ≤ c ∧ n + 1 ≤ maxLen ∧ Rds w 2 (.slice (some ⟨b, o, none⟩) n c) n (markC l0) ∧ w.cell? ⟨b, o + n * 2, none⟩ = some (.int .i64 m.1) ∧ w.cell? ⟨b, o + n * 2 + 1, none⟩ = some (.string ⟨m.2.toArray⟩) := by
  obtain ⟨A', c', hv, hc, hm, hl, hr⟩ := h
  obtain ⟨rfl, rfl⟩ := (by simpa using hv : A = A' ∧ c = c')
  obtain ⟨b, o, rfl, hx⟩ := hr (by omega)
  have hml := markC_len l0
  refine ⟨b, o, rfl, hc, hm, ⟨_, _, rfl, by omega, by omega, by rw [hml, hn], fun _ => ⟨b, o, rfl, fun j u hu => hx j u ?_⟩⟩, hx (n * 2) _ ?_, hx (n * 2 + 1) _ ?_⟩
  · rw [markC_snoc]
    exact List.getElem?_append_left (List.getElem?_eq_some_iff.1 hu).1 ▸ hu
  · rw [markC_snoc, List.getElem?_append_right (by omega), hml, hn]
    simp
  · rw [markC_snoc, List.getElem?_append_right (by omega), hml, hn]
    simp
end Go.Proofs.Ythkeggmloajapaa
