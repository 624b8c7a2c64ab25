/- What a round of Apart keeps for the iterator. -/
import Derived.Test.YtignhjfobcnloaaSubIter
import Derived.Test.YtignhjfobcnloaaPairSet
namespace Go.Proofs.Ytignhjfobcnloaa
open Go.RowKit Go.Shelf
structure KpA (B0 B1 Bx : Nat) (W W' : World) : Prop where
  os : W'.os = W.os
  tape : W'.tape = W.tape
  output : W'.output = W.output
  size : W.heap.size ≤ W'.heap.size
  low : ∀ k, k < B0 → W'.heap[k]? = W.heap[k]?
  row : ∀ v, Row W Bx 36 #[v] → ∃ v', Row W' Bx 36 #[v'] ∧ (∀ g, v'.ownBlock = some g → v.ownBlock = some g ∨ W.heap.size ≤ g) ∧
    ∀ k o, B1 ≤ k → v.ownBlock ≠ some k → (∀ r, o ≠ .loop r) → (∀ d, o ≠ .deferred d) → W.heap[k]? = some o → W'.heap[k]? = some o
def SfA (B1 Bx : Nat) (W : World) (g : Nat) : Prop := B1 ≤ g ∧ g < W.heap.size ∧ ∃ v, Row W Bx 36 #[v] ∧ v.ownBlock ≠ some g
def GA (B1 Bx : Nat) (W : World) : Prop := B1 ≤ W.heap.size ∧ ∃ v, Row W Bx 36 #[v] ∧ ∀ g, v.ownBlock = some g → g < W.heap.size
theorem Row.inj {W : World} {g : Nat} {t : TypeId} {v u : Value} (h : Row W g t #[v]) (k : Row W g t #[u]) : v = u := by
  have : some (Obj.cells #[v] t (0, 0)) = some (Obj.cells #[u] t (0, 0)) := h.symm.trans k
  simpa using this
theorem KpA.trans {B0 B1 Bx : Nat} {A B C : World} (h : KpA B0 B1 Bx A B) (k : KpA B0 B1 Bx B C) : KpA B0 B1 Bx A C := by
  refine ⟨k.os.trans h.os, k.tape.trans h.tape, k.output.trans h.output, Nat.le_trans h.size k.size, fun i hi => (k.low i hi).trans (h.low i hi), fun v hv => ?_⟩
  obtain ⟨v1, r1, o1, f1⟩ := h.row v hv
  obtain ⟨v2, r2, o2, f2⟩ := k.row v1 r1
  refine ⟨v2, r2, fun g eg => ?_, fun i o hi hne h1 h2 ho => ?_⟩
  · rcases o2 g eg with e | e
    · exact o1 g e
    · exact .inr (Nat.le_trans h.size e)
  · have hlt := (Array.getElem?_eq_some_iff.1 ho).1
    refine f2 i o hi (fun e => ?_) h1 h2 (f1 i o hi hne h1 h2 ho)
    rcases o1 i e with e | e
    · exact hne e
    · omega
theorem KpA.loop {B0 B1 Bx : Nat} {W : World} {l : Nat} {r r' : Loop} (hl : W.heap[l]? = some (.loop r)) (h0 : B0 ≤ l) (hx : Bx ≠ l) : KpA B0 B1 Bx W (W.putObj l (.loop r')) := by
  refine ⟨rfl, rfl, rfl, by simp, fun k hk => World.putObj_heap_other (by omega), fun v hv => ⟨v, (World.putObj_heap_other hx).trans hv, fun g e => .inl e, fun k o hk hne h1 h2 ho => (World.putObj_heap_other fun e => ?_).trans ho⟩⟩
  subst e
  rw [hl] at ho
  injection ho with ho
  exact h1 r ho.symm
theorem KpA.alloc {B0 B1 Bx : Nat} {W : World} (o : Obj) (h0 : B0 ≤ W.heap.size) : KpA B0 B1 Bx W (W.alloc o) := by
  have hb : Below W.heap.size W (W.alloc o) := (Below.refl _ _).alloc (Nat.le_refl _) o
  exact ⟨rfl, rfl, rfl, hb.size, fun k hk => hb.block k (by omega), fun v hv => ⟨v, hv.below hb hv.lt, fun g e => .inl e, fun k o' _ _ _ _ ho => (hb.block k (Array.getElem?_eq_some_iff.1 ho).1).trans ho⟩⟩
theorem handsA {B0 B1 Bx : Nat} : Hands B0 (KpA B0 B1 Bx) (GA B1 Bx) (SfA B1 Bx) where
  old W W' h := ⟨h.os, h.tape, h.output, h.size, h.low⟩
  new W W' g hg hb h1 h2 := by
    obtain ⟨hB, v, hv, ho⟩ := hg
    exact ⟨by omega, h2, v, hv.below hb hv.lt, fun e => by have := ho g e; omega⟩
  kept W W' g hk hs := by
    obtain ⟨hB, hlt, v, hv, hne⟩ := hs
    obtain ⟨v', r', o', f'⟩ := hk.row v hv
    refine ⟨⟨hB, Nat.lt_of_lt_of_le hlt hk.size, v', r', fun e => ?_⟩, fun o h1 h2 ho => f' g o hB hne h1 h2 ho⟩
    rcases o' g e with e | e
    · exact hne e
    · omega
  grow W W' g hs hb := by
    obtain ⟨hB, hlt, v, hv, hne⟩ := hs
    exact ⟨hB, Nat.lt_of_lt_of_le hlt hb.size, v, hv.below hb hv.lt, hne⟩
/-- the pairs that Apart keeps, each once, in the order in which they are found -/
def outP (out : List PairD) (p : PairD) : List PairD := if p.1 = p.2 then out else if p ∈ out then out else out ++ [p]
def outS (l : List PairD) : List PairD := l.foldl outP []
def posS (l : List PairD) : Bool := l.all fun p => p.1 ≠ p.2
theorem outS_snoc (l : List PairD) (p : PairD) : outS (l ++ [p]) = outP (outS l) p := by unfold outS; rw [List.foldl_append]; rfl
theorem posS_snoc (l : List PairD) (p : PairD) : posS (l ++ [p]) = (posS l && decide (p.1 ≠ p.2)) := by unfold posS; simp
theorem outP_len (out : List PairD) (p : PairD) : (outP out p).length ≤ out.length + 1 := by unfold outP; split; omega; split; omega; simp
theorem outS_len : ∀ (l out : List PairD), (l.foldl outP out).length ≤ out.length + l.length := by
  intro l
  induction l with
  | nil => intro out; exact Nat.le_refl _
  | cons p l ih => intro out; rw [List.foldl_cons]; have := ih (outP out p); have := outP_len out p; simp; omega
end Go.Proofs.Ytignhjfobcnloaa
