/- A word behind a statement's symbols or its proof. -/
import Derived.Test.YtpmbfcogkoiogaaDoorLayMemA
import Derived.Test.YtpmbfcogkoiogaaDoorCopyApp
import Derived.Test.YtpmbfcogkoiogaaDoorHandsKit
import Derived.Test.YtpmbfcogkoiogaaDoorStrCells
import Derived.OwnWalk
namespace Go.Proofs.YtpmbfcogkoiogaaDoor
open Go.RowKit
theorem xat_form {w : World} {tv pv : Value} {k : Int} {l : List UInt8} {tx px : List (List UInt8)} (h : XAt w tv pv ⟨k, l, tx, px⟩) : (∃ A c, tv = .slice A tx.length c) ∧ ∃ A c, pv = .slice A px.length c := h.form
theorem str_ones {l : List (List UInt8)} : ∀ u ∈ l.map (fun s => Value.string ⟨s.toArray⟩), u.oneCell' = true := by
  intro u hu
  obtain ⟨s, _, rfl⟩ := List.mem_map.1 hu
  rfl
section
variable {w w2 w3 : World} {tv pv : Value} {x : StmD} {n : Nat} {xs : List Value} {V2 : Value} {cs : Array Value} {g : Nat} {sw : List UInt8}
theorem app_below (hg2 : (w.alloc (.cells #[] 9)).grownBy w2 (Value.slice (some ⟨w.heap.size, 0, none⟩) 0 0).ownBlock) (ho2 : w2.ownsRow w.heap.size 9 1 V2 n xs) (hg3 : (w2.alloc (.cells #[.string ⟨sw.toArray⟩] 9)).grownBy w3 V2.ownBlock) : Below w.heap.size w w3 := by
  have g1 : Below w.heap.size w w2 := ((Below.refl _ _).alloc (Nat.le_refl _) (.cells #[] 9)).grown hg2 (by simp) (by simp [Value.ownBlock])
  exact (g1.alloc g1.size (.cells #[.string ⟨sw.toArray⟩] 9)).grown hg3 (by have := g1.size; simp; omega) (fun k hk => (ho2.lt _ hk).1)
theorem xat_text {k : Int} {l : List UInt8} {tx px : List (List UInt8)} (ha : XAt w tv pv ⟨k, l, tx, px⟩) (hx : Row w g 34 cs) {base : Nat} {V : Value} (ho : w.ownsRow base 9 1 V (tx.length + 1) (tx.map (fun s => Value.string ⟨s.toArray⟩) ++ [.string ⟨sw.toArray⟩])) (u : Value) : XAt (w.setCell ⟨g, 2, none⟩ u) V pv ⟨k, l, tx ++ [sw], px⟩ := by
  refine ⟨Rds.store ?_ (TyB.of_own ho) hx (by decide) u, Rds.store ha.px ha.tp hx (by decide) u, (TyB.of_own ho).store hx (by decide) u, ha.tp.store hx (by decide) u⟩
  have h := Rds.of_own ho
  show Rds w 1 V (tx ++ [sw]).length ((tx ++ [sw]).map _)
  rw [List.map_append, List.length_append]
  exact h
theorem xat_proof {k : Int} {l : List UInt8} {tx px : List (List UInt8)} (ha : XAt w tv pv ⟨k, l, tx, px⟩) (hx : Row w g 34 cs) {base : Nat} {V : Value} (ho : w.ownsRow base 9 1 V (px.length + 1) (px.map (fun s => Value.string ⟨s.toArray⟩) ++ [.string ⟨sw.toArray⟩])) (u : Value) : XAt (w.setCell ⟨g, 3, none⟩ u) tv V ⟨k, l, tx, px ++ [sw]⟩ := by
  refine ⟨Rds.store ha.tx ha.tt hx (by decide) u, Rds.store ?_ (TyB.of_own ho) hx (by decide) u, ha.tt.store hx (by decide) u, (TyB.of_own ho).store hx (by decide) u⟩
  have h := Rds.of_own ho
  show Rds w 1 V (px ++ [sw]).length ((px ++ [sw]).map _)
  rw [List.map_append, List.length_append]
  exact h
end
theorem mostS_le (k : Int) : mostS k ≤ 200 := by
  unfold mostS
  split
  · decide
  · split <;> decide
/-- between two rounds of a statement's loop -/
def StmRel (w : World) (ws : List (List UInt8)) (R : (StmD × Nat) ⊕ (Nat × Int)) (at_ : Nat) (v1 v10 : Value) (wr : World) : Prop :=
  ∃ (j k : Nat) (pf : Bool) (l : List UInt8) (tx px : List (List UInt8)) (tv pv : Value), v1 = .int .i64 (j : Nat) ∧ v10 = .bool pf ∧ Row wr (w.heap.size + 1) 34 #[.int .i64 (k : Nat), .string ⟨l.toArray⟩, tv, pv] ∧ Row wr w.heap.size 34 #[.int .i64 0, .string ⟨#[]⟩, .slice none 0 0, .slice none 0 0] ∧
    XAt wr tv pv ⟨k, l, tx, px⟩ ∧ Below w.heap.size w wr ∧ j ≤ ws.length ∧ prun at_ (if pf then .proof ⟨k, l, tx, px⟩ else .text ⟨k, l, tx, px⟩) j (ws.drop j) = R ∧ px.length ≤ j ∧ tx.length ≤ mostS k ∧ 1 ≤ k ∧ k ≤ 7 ∧ (pf = true → k = 7)
end Go.Proofs.YtpmbfcogkoiogaaDoor
