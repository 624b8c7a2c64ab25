/- Slices whose block has a known type: a store into a block of another type leaves them. A statement in memory. -/
import Derived.Test.YtpmbfcogkoiogaaDoorBldA
import Derived.Test.YtpmbfcogkoiogaaDoorBaseA
import Derived.Test.YtpmbfcogkoiogaaDoorLayPlain
import Derived.Test.YtpmbfcogkoiogaaDoorStrA
import Derived.Laws.Rows
import Derived.Laws.ResultCell
section
namespace Go.Proofs.YtpmbfcogkoiogaaDoor
open Go.RowKit
/-- the block of the slice v has elements of the type E -/
def TyB (w : World) (E : TypeId) (v : Value) : Prop := ∀ g, v.ownBlock = some g → ∃ c fr, w.heap[g]? = some (.cells c E fr)
theorem TyB.nil {w : World} {E : TypeId} : TyB w E (.slice none 0 0) := fun g e => by cases e
theorem TyB.below {w w' : World} {E : TypeId} {v : Value} (h : TyB w E v) (hb : Below w.heap.size w w') : TyB w' E v := fun g e => by
  obtain ⟨c, fr, hg⟩ := h g e
  exact ⟨c, fr, (hb.block g (Array.getElem?_eq_some_iff.1 hg).1).trans hg⟩
theorem TyB.of_own {w : World} {base : Nat} {E : TypeId} {size n : Nat} {v : Value} {xs : List Value} (h : w.ownsRow base E size v n xs) : TyB w E v := fun g e => by
  rcases h.2 with ⟨rfl, _⟩ | ⟨k, cap, cur, rfl, _, hh, _⟩
  · cases e
  · obtain rfl : k = g := by simpa [Value.ownBlock] using e
    exact ⟨_, _, hh⟩
theorem TyB.ne {w : World} {E t : TypeId} {v : Value} {g : Nat} {cs : Array Value} (h : TyB w E v) (hr : Row w g t cs) (ht : t ≠ E) : ∀ k, v.ownBlock = some k → k ≠ g := fun k e => by
  rintro rfl
  obtain ⟨c, fr, hg⟩ := h k e
  unfold Row at hr
  rw [hr] at hg
  exact ht (by simp at hg; exact hg.2.1)
theorem TyB.store {w : World} {E t : TypeId} {v : Value} {g i : Nat} {cs : Array Value} (h : TyB w E v) (hr : Row w g t cs) (ht : t ≠ E) (u : Value) : TyB (w.setCell ⟨g, i, none⟩ u) E v := fun k e => by
  obtain ⟨c, fr, hg⟩ := h k e
  exact ⟨c, fr, (Below.heap_setCell _ _ _ _ (by dsimp only; exact h.ne hr ht k e)).trans hg⟩
theorem Rds.same {w w' : World} {size n : Nat} {v : Value} {xs : List Value} (h : Rds w size v n xs) (hs : ∀ g, 0 < n → v.ownBlock = some g → ∀ o, w'.cell? ⟨g, o, none⟩ = w.cell? ⟨g, o, none⟩) : Rds w' size v n xs := by
  obtain ⟨A, c, rfl, hc, hm, hl, hx⟩ := h
  refine ⟨A, c, rfl, hc, hm, hl, fun hn => ?_⟩
  obtain ⟨b, o, rfl, hx'⟩ := hx hn
  exact ⟨b, o, rfl, fun j u hu => (hs b hn rfl _).trans (hx' j u hu)⟩
theorem Rds.store {w : World} {size n : Nat} {v : Value} {xs : List Value} {E t : TypeId} {g i : Nat} {cs : Array Value} (h : Rds w size v n xs) (ht : TyB w E v) (hr : Row w g t cs) (he : t ≠ E) (u : Value) : Rds (w.setCell ⟨g, i, none⟩ u) size v n xs :=
  h.same fun k _ e o => by
    unfold World.cell?
    rw [Below.heap_setCell _ _ _ _ (by dsimp only; exact ht.ne hr he k e)]
end Go.Proofs.YtpmbfcogkoiogaaDoor
end
section
namespace Go.Proofs.YtpmbfcogkoiogaaDoor
open Go.RowKit
/-- the two slices of a statement read as its symbols and its proof -/
structure XAt (w : World) (tv pv : Value) (x : StmD) : Prop where
  tx : Strs w tv x.text
  px : Strs w pv x.proof
  tt : TyB w 9 tv
  tp : TyB w 9 pv
def stmV (k : Int) (l : List UInt8) (tv pv : Value) : Value := .agg #[.int .i64 k, .string ⟨l.toArray⟩, tv, pv]
/-- the box of a statement, set -/
def setX (w : World) (g : Nat) (k : Int) (l : List UInt8) (tv pv : Value) : World := (((w.setCell ⟨g, 0, none⟩ (.int .i64 k)).setCell ⟨g, 1, none⟩ (.string ⟨l.toArray⟩)).setCell ⟨g, 2, none⟩ tv).setCell ⟨g, 3, none⟩ pv
section
variable {w w' : World} {g : Nat} {k : Int} {l : List UInt8} {tv pv : Value} {x : StmD}
theorem XAt.below (h : XAt w tv pv x) (hb : Below w.heap.size w w') : XAt w' tv pv x := ⟨h.tx.below hb, h.px.below hb, h.tt.below hb, h.tp.below hb⟩
theorem XAt.store {i : Nat} {cs : Array Value} (h : XAt w tv pv x) (hr : Row w g 34 cs) (u : Value) : XAt (w.setCell ⟨g, i, none⟩ u) tv pv x :=
  ⟨Rds.store h.tx h.tt hr (by decide) u, Rds.store h.px h.tp hr (by decide) u, h.tt.store hr (by decide) u, h.tp.store hr (by decide) u⟩
theorem XAt.form (h : XAt w tv pv x) : (∃ A c, tv = .slice A x.text.length c) ∧ ∃ A c, pv = .slice A x.proof.length c := by
  obtain ⟨A1, c1, rfl, _⟩ := h.tx
  obtain ⟨A2, c2, rfl, _⟩ := h.px
  exact ⟨⟨_, _, rfl⟩, _, _, rfl⟩
theorem XAt.nil (w : World) (k : Int) (l : List UInt8) : XAt w (.slice none 0 0) (.slice none 0 0) ⟨k, l, [], []⟩ := ⟨Rds.nil_, Rds.nil_, TyB.nil, TyB.nil⟩
theorem setX_row {a0 a1 a2 a3 : Value} (hr : Row w g 34 #[a0, a1, a2, a3]) : Row (setX w g k l tv pv) g 34 #[.int .i64 k, .string ⟨l.toArray⟩, tv, pv] := by
  have r1 : Row (w.setCell ⟨g, 0, none⟩ (.int .i64 k)) g 34 #[.int .i64 k, a1, a2, a3] := hr.set 0 _
  have r2 : Row ((w.setCell ⟨g, 0, none⟩ (.int .i64 k)).setCell ⟨g, 1, none⟩ (.string ⟨l.toArray⟩)) g 34 #[.int .i64 k, .string ⟨l.toArray⟩, a2, a3] := r1.set 1 _
  have r3 : Row (((w.setCell ⟨g, 0, none⟩ (.int .i64 k)).setCell ⟨g, 1, none⟩ (.string ⟨l.toArray⟩)).setCell ⟨g, 2, none⟩ tv) g 34 #[.int .i64 k, .string ⟨l.toArray⟩, tv, a3] := r2.set 2 _
  exact r3.set 3 pv
theorem setX_at {a0 a1 a2 a3 tv' pv' : Value} (h : XAt w tv' pv' x) (hr : Row w g 34 #[a0, a1, a2, a3]) : XAt (setX w g k l tv pv) tv' pv' x := by
  have r1 := hr.set 0 (.int .i64 k)
  have r2 := r1.set 1 (.string ⟨l.toArray⟩)
  have r3 := r2.set 2 tv
  exact (((h.store hr _).store r1 _).store r2 _).store r3 _
theorem setX_below {B : Nat} {a : World} (h : Below B a w) (hg : B ≤ g) : Below B a (setX w g k l tv pv) :=
  (((h.setCell (p := ⟨g, 0, none⟩) hg _).setCell (p := ⟨g, 1, none⟩) hg _).setCell (p := ⟨g, 2, none⟩) hg _).setCell (p := ⟨g, 3, none⟩) hg _
end
/-- what the reading of a statement returns: the statement and the index behind it, or an error -/
def StmtPost (w : World) (r : (StmD × Nat) ⊕ (Nat × Int)) (e : Ending) (w' : World) : Prop :=
  ∃ (x : StmD) (tv pv : Value) (j : Nat) (z : Int), e = .returned (.tuple #[stmV x.kind x.label tv pv, .int .i64 (j : Nat), .int .i64 z]) ∧ XAt w' tv pv x ∧ Below w.heap.size w w' ∧ match r with
    | .inl (y, i) => x = y ∧ j = i ∧ z = 0
    | .inr (i, c) => j = i ∧ z = c ∧ z ≠ 0
end Go.Proofs.YtpmbfcogkoiogaaDoor
end
