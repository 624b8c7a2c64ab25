/- A statement whose slices are the call's own. -/
import Derived.Test.YtpmbfcogkoiogaaDoorLayList
import Derived.Test.YtpmbfcogkoiogaaDoorLayStep
namespace Go.Proofs.YtpmbfcogkoiogaaDoor
open Go.RowKit
def strC (l : List (List UInt8)) : List Value := l.map fun s => Value.string ⟨s.toArray⟩
section
variable {w w' : World} {base n size : Nat} {v V : Value} {xs ys : List Value} {E t : TypeId} {g : Nat} {cs : Array Value}
theorem own_nil (w : World) (base : Nat) (E : TypeId) (size : Nat) : w.ownsRow base E size (.slice none 0 0) 0 [] := ⟨by simp, .inl ⟨rfl, rfl⟩⟩
theorem own_keep (h : w.ownsRow base E size v n xs) (hk : ∀ g, v.ownBlock = some g → w'.heap[g]? = w.heap[g]?) : w'.ownsRow base E size v n xs := by
  refine ⟨h.1, ?_⟩
  rcases h.2 with h | ⟨g, cap, cur, rfl, hg, hh, r⟩
  · exact .inl h
  · exact .inr ⟨g, cap, cur, rfl, hg, (hk g rfl).trans hh, r⟩
theorem own_ne (h : w.ownsRow base E size v n xs) (hr : Row w g t cs) (ht : t ≠ E) : v.ownBlock ≠ some g := by
  intro e
  rcases h.2 with ⟨rfl, _⟩ | ⟨k, cap, cur, rfl, _, hh, _⟩
  · cases e
  · obtain rfl : k = g := by simpa [Value.ownBlock] using e
    unfold Row at hr
    rw [hr] at hh
    exact ht (by simp at hh; exact hh.2)
theorem own_store (h : w.ownsRow base E size v n xs) (hr : Row w g t cs) (ht : t ≠ E) (i : Nat) (u : Value) : (w.setCell ⟨g, i, none⟩ u).ownsRow base E size v n xs :=
  own_keep h fun k e => Below.heap_setCell _ _ _ _ (by dsimp only; rintro rfl; exact own_ne h hr ht e)
/-- another row of the call's own grows -/
theorem own_grown {m sz : Nat} (h : w.ownsRow base E size v n xs) (hg : w.grownBy w' V.ownBlock) (hne : ∀ k, v.ownBlock = some k → V.ownBlock ≠ some k) (_ho : w.ownsRow base E sz V m ys) : w'.ownsRow base E size v n xs :=
  own_keep h fun k e => hg.block k (h.lt _ e).2 fun e2 => hne k e e2.symm
end
/-- both slices of a statement are the call's own; the proof's begins behind B -/
structure XOwn (w : World) (base B : Nat) (tv pv : Value) (tx px : List (List UInt8)) : Prop where
  t : w.ownsRow base 9 1 tv tx.length (strC tx)
  p : w.ownsRow B 9 1 pv px.length (strC px)
  le : base ≤ B
  lt : B ≤ w.heap.size
section
variable {w w' : World} {base B g : Nat} {tv pv : Value} {tx px : List (List UInt8)} {k : Int} {l : List UInt8} {cs : Array Value} {sw : List UInt8}
theorem XOwn.nil (w : World) : XOwn w w.heap.size w.heap.size (.slice none 0 0) (.slice none 0 0) [] [] := ⟨own_nil _ _ _ _, own_nil _ _ _ _, Nat.le_refl _, Nat.le_refl _⟩
theorem XOwn.below (h : XOwn w base B tv pv tx px) (hb : Below w.heap.size w w') : XOwn w' base B tv pv tx px := ⟨own_below h.t hb, own_below h.p hb, h.le, Nat.le_trans h.lt hb.size⟩
theorem XOwn.store (h : XOwn w base B tv pv tx px) (hr : Row w g 34 cs) (i : Nat) (u : Value) : XOwn (w.setCell ⟨g, i, none⟩ u) base B tv pv tx px :=
  ⟨own_store h.t hr (by decide) i u, own_store h.p hr (by decide) i u, h.le, by simpa using h.lt⟩
theorem XOwn.at_ (h : XOwn w base B tv pv tx px) : XAt w tv pv ⟨k, l, tx, px⟩ := ⟨Rds.of_own h.t, Rds.of_own h.p, TyB.of_own h.t, TyB.of_own h.p⟩
theorem XOwn.form (h : XOwn w base B tv pv tx px) : (∃ A c, tv = .slice A tx.length c) ∧ ∃ A c, pv = .slice A px.length c := by
  obtain ⟨A1, c1, rfl, _⟩ := own_form h.t
  obtain ⟨A2, c2, rfl, _⟩ := own_form h.p
  exact ⟨⟨_, _, rfl⟩, _, _, rfl⟩
/-- one word more behind the symbols -/
theorem XOwn.text {V : Value} (h : XOwn w base B tv (.slice none 0 0) tx []) (ho : w'.ownsRow base 9 1 V (tx.length + 1) (strC tx ++ [.string ⟨sw.toArray⟩])) (hg : w.grownBy w' tv.ownBlock) : XOwn w' base B V (.slice none 0 0) (tx ++ [sw]) [] :=
  ⟨by simpa [strC] using ho, own_nil _ _ _ _, h.le, Nat.le_trans h.lt hg.size⟩
/-- one word more behind the proof -/
theorem XOwn.proof {V : Value} (h : XOwn w base B tv pv tx px) (ht : ∀ g, tv.ownBlock = some g → g < B) (ho : w'.ownsRow B 9 1 V (px.length + 1) (strC px ++ [.string ⟨sw.toArray⟩])) (hg : w.grownBy w' pv.ownBlock) : XOwn w' base B tv V tx (px ++ [sw]) :=
  ⟨own_keep h.t fun k e => hg.block k (h.t.lt _ e).2 fun e2 => by
    have h1 := ht k e
    have h2 := (h.p.lt _ e2.symm).1
    omega, by simpa [strC] using ho, h.le, Nat.le_trans h.lt hg.size⟩
theorem XOwn.blk (h : XOwn w base B tv pv tx px) : ∀ g, tv.ownBlock = some g → g < w.heap.size := fun _ e => (h.t.lt _ e).2
/-- the proof's slice may begin later while it is empty -/
theorem XOwn.later (h : XOwn w base B tv (.slice none 0 0) tx []) : XOwn w base w.heap.size tv (.slice none 0 0) tx [] := ⟨h.t, own_nil _ _ _ _, Nat.le_trans h.le h.lt, Nat.le_refl _⟩
end
section
variable {w w4 w5 : World} {B g : Nat} {tv pv V5 : Value} {tx px : List (List UInt8)} {cs : Array Value} {sw : List UInt8} {o : Obj}
theorem app_proof (hr : Row w4 g 34 cs) (hx : XOwn w4 w.heap.size B tv pv tx px) (hb : Below w.heap.size w w4) (htb : ∀ g, tv.ownBlock = some g → g < B)
    (ho5 : w5.ownsRow B 9 1 V5 (px.length + 1) (strC px ++ [.string ⟨sw.toArray⟩])) (hg5 : (w4.alloc o).grownBy w5 pv.ownBlock) : (∃ A c, V5 = .slice A (px.length + 1) c) ∧ Row w5 g 34 cs ∧ XOwn w5 w.heap.size B tv V5 tx (px ++ [sw]) ∧ Below w.heap.size w w5 := by
  have h4 := ca_own_alloc hx.p o
  obtain ⟨A, c, e, _⟩ := own_form ho5
  have hx4 := hx.below (new_ (Below.refl _ _) o)
  exact ⟨⟨A, c, e⟩, (hr.alloc o).grown hg5 (fun e => own_ne h4 (hr.alloc o) (by decide) e.symm), hx4.proof htb ho5 hg5, Below.grown (new_ hb o) hg5 (Nat.le_trans hx4.le hx4.lt) fun k hk => Nat.le_trans hx.le (h4.lt _ hk).1⟩
theorem app_text (hr : Row w4 g 34 cs) (hx : XOwn w4 w.heap.size B tv (.slice none 0 0) tx []) (hb : Below w.heap.size w w4)
    (ho5 : w5.ownsRow w.heap.size 9 1 V5 (tx.length + 1) (strC tx ++ [.string ⟨sw.toArray⟩])) (hg5 : (w4.alloc o).grownBy w5 tv.ownBlock) : (∃ A c, V5 = .slice A (tx.length + 1) c) ∧ Row w5 g 34 cs ∧ XOwn w5 w.heap.size B V5 (.slice none 0 0) (tx ++ [sw]) [] ∧ Below w.heap.size w w5 := by
  have h4 := ca_own_alloc hx.t o
  obtain ⟨A, c, e, _⟩ := own_form ho5
  have hx4 := hx.below (new_ (Below.refl _ _) o)
  exact ⟨⟨A, c, e⟩, (hr.alloc o).grown hg5 (fun e => own_ne h4 (hr.alloc o) (by decide) e.symm), hx4.text ho5 hg5, Below.grown (new_ hb o) hg5 (Nat.le_trans hx4.le hx4.lt) fun k hk => (h4.lt _ hk).1⟩
end
def nilV : Value := .slice none 0 0
/-- within the reading of a statement -/
def RdSt (at_ : Nat) (ws : List (List UInt8)) (R : (StmD × Nat) ⊕ (Nat × Int)) (j : Nat) (st kz : Int) (l : List UInt8) (tx px : List (List UInt8)) (tv pv : Value) (B : Nat) : Prop :=
  (st = 0 ∧ kz = 0 ∧ l = [] ∧ tx = [] ∧ px = [] ∧ tv = .slice none 0 0 ∧ pv = .slice none 0 0 ∧ prun at_ .begin j (ws.drop j) = R) ∨
  (st = 1 ∧ kz = 0 ∧ tx = [] ∧ px = [] ∧ tv = .slice none 0 0 ∧ pv = .slice none 0 0 ∧ prun at_ (.key l) j (ws.drop j) = R) ∨
  (st = 2 ∧ px = [] ∧ pv = .slice none 0 0 ∧ ∃ k : Nat, kz = k ∧ 1 ≤ k ∧ k ≤ 7 ∧ tx.length ≤ mostS k ∧ prun at_ (.text ⟨k, l, tx, []⟩) j (ws.drop j) = R) ∨
  (st = 3 ∧ kz = 7 ∧ (∀ g, tv.ownBlock = some g → g < B) ∧ prun at_ (.proof ⟨7, l, tx, px⟩) j (ws.drop j) = R)
/-- between two rounds of the reading of a statement -/
def RdRel (w : World) (ws : List (List UInt8)) (R : (StmD × Nat) ⊕ (Nat × Int)) (at_ : Nat) (v7 v8 : Value) (wr : World) : Prop :=
  ∃ (j : Nat) (st kz : Int) (l : List UInt8) (tx px : List (List UInt8)) (tv pv : Value) (B : Nat), v7 = .int .i64 st ∧ v8 = .int .i64 (j : Nat) ∧ Row wr w.heap.size 34 #[.int .i64 kz, .string ⟨l.toArray⟩, tv, pv] ∧
    XOwn wr w.heap.size B tv pv tx px ∧ Below w.heap.size w wr ∧ j ≤ ws.length ∧ tx.length ≤ j ∧ px.length ≤ j ∧ RdSt at_ ws R j st kz l tx px tv pv B
end Go.Proofs.YtpmbfcogkoiogaaDoor
