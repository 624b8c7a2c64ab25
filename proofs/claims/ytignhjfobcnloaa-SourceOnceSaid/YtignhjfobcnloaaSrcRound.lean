/- The frame of a round that changes what hangs on some roots. -/
import Derived.Test.YtignhjfobcnloaaSeqA
namespace Go.Proofs.Ytignhjfobcnloaa
open Go.RowKit
/-- the blocks that hang on the roots R in W: the roots, and what their cells own -/
def mineR (R : Nat → Prop) (W : World) (k : Nat) : Prop := R k ∨ ∃ g cs t fr v, R g ∧ W.heap[g]? = some (.cells cs t fr) ∧ v ∈ cs.toList ∧ (v.ownBlock = some k ∨ v = .map (some k))
/-- what lay ahead stays, but for what hangs on the roots -/
structure KpR (B0 : Nat) (R : Nat → Prop) (W W' : World) : Prop where
  os : W'.os = W.os
  tape : W'.tape = W.tape
  output : W'.output = W.output
  size : W.heap.size ≤ W'.heap.size
  low : ∀ k, k < B0 → W'.heap[k]? = W.heap[k]?
  mine : ∀ k, mineR R W' k → mineR R W k ∨ W.heap.size ≤ k
  keep : ∀ k o, ¬ mineR R W k → (∀ r, o ≠ .loop r) → (∀ d, o ≠ .deferred d) → W.heap[k]? = some o → W'.heap[k]? = some o
section
variable {B0 : Nat} {R : Nat → Prop} {W W' W'' : World}
theorem KpR.refl (W : World) : KpR B0 R W W := ⟨rfl, rfl, rfl, Nat.le_refl _, fun _ _ => rfl, fun _ h => .inl h, fun _ _ _ _ _ h => h⟩
theorem KpR.trans (h : KpR B0 R W W') (k : KpR B0 R W' W'') : KpR B0 R W W'' := by
  refine ⟨k.os.trans h.os, k.tape.trans h.tape, k.output.trans h.output, Nat.le_trans h.size k.size, fun i hi => (k.low i hi).trans (h.low i hi), fun i hi => ?_, fun i o hi h1 h2 ho => ?_⟩
  · rcases k.mine i hi with e | e
    · exact h.mine i e
    · exact .inr (Nat.le_trans h.size e)
  · have hlt := (Array.getElem?_eq_some_iff.1 ho).1
    refine k.keep i o (fun e => ?_) h1 h2 (h.keep i o hi h1 h2 ho)
    rcases h.mine i e with e | e
    · exact hi e
    · omega
/-- the roots lie in W -/
def Rooted (R : Nat → Prop) (W : World) : Prop := ∀ r, R r → r < W.heap.size
theorem mineR_below (hR : Rooted R W) (hb : Below W.heap.size W W') {k : Nat} (h : mineR R W' k) : mineR R W k := by
  rcases h with h | ⟨g, cs, t, fr, v, hg, hh, hv⟩
  · exact .inl h
  · exact .inr ⟨g, cs, t, fr, v, hg, (hb.block g (hR g hg)).symm.trans hh, hv⟩
theorem KpR.of_below (hR : Rooted R W) (hb : Below W.heap.size W W') (h0 : B0 ≤ W.heap.size) : KpR B0 R W W' :=
  ⟨hb.os, hb.tape, hb.output, hb.size, fun k hk => hb.block k (by omega), fun _ h => .inl (mineR_below hR hb h), fun k o _ _ _ ho => (hb.block k (Array.getElem?_eq_some_iff.1 ho).1).trans ho⟩
/-- a taker's change, where the taker is a root and no other root hangs on it -/
theorem KpR.of_taker {T : Nat} {cs : Array Value} (hT : R T) (hr : Row W T 136 cs) (hk : KpT B0 T W W') (hR : Rooted R W) (hd : ∀ r, R r → r ≠ T → ¬ mineC T cs r) : KpR B0 R W W' := by
  obtain ⟨c1, r1, o1, f1⟩ := hk.row cs hr
  refine ⟨hk.os, hk.tape, hk.output, hk.size, hk.low, fun k h => ?_, fun k o hm _ _ ho => f1 k o (fun e => hm ?_) ho⟩
  · rcases h with h | ⟨g, c2, t, fr, v, hg, hh, hv, hvk⟩
    · exact .inl (.inl h)
    · by_cases e : g = T
      · subst e
        have : c2 = c1 := by unfold Row at r1; rw [r1] at hh; simp at hh; exact hh.1.symm
        subst this
        rcases o1 k (.inr ⟨v, hv, hvk⟩) with e | e
        · rcases e with rfl | ⟨u, hu, huk⟩
          · exact .inl (.inl hT)
          · exact .inl (.inr ⟨g, cs, _, _, u, hT, hr, hu, huk⟩)
        · exact .inr e
      · obtain ⟨o, ho⟩ : ∃ o, W.heap[g]? = some o := ⟨_, Array.getElem?_eq_getElem (hR g hg)⟩
        have h3 := f1 g o (hd g hg e) ho
        rw [h3] at hh
        cases hh
        exact .inl (.inr ⟨g, c2, t, fr, v, hg, ho, hv, hvk⟩)
  · rcases e with rfl | ⟨v, hv, hvk⟩
    · exact .inl hT
    · exact .inr ⟨T, cs, _, _, v, hT, hr, hv, hvk⟩
/-- a store into a root's cell -/
theorem KpR.store {g i : Nat} {t : TypeId} {cs : Array Value} {u : Value} (hg : R g) (hr : Row W g t cs) (h0 : B0 ≤ g) (hu : ∀ k, u.ownBlock = some k ∨ u = .map (some k) → mineR R W k ∨ W.heap.size ≤ k) : KpR B0 R W (W.setCell ⟨g, i, none⟩ u) := by
  refine ⟨rfl, rfl, rfl, by simp [World.setCell], fun k hk => Below.heap_setCell _ _ _ _ (by dsimp only; omega), fun k h => ?_, fun k o hm _ _ ho => (Below.heap_setCell _ _ _ _ (by dsimp only; exact fun e => hm (.inl (e ▸ hg)))).trans ho⟩
  rcases h with h | ⟨g', c2, t', fr, v, hg', hh, hv, hvk⟩
  · exact .inl (.inl h)
  · by_cases e : g' = g
    · subst e
      have h2 := hr.set i u
      unfold Row at h2
      rw [h2] at hh
      obtain rfl : cs.setIfInBounds i u = c2 := by simp at hh; exact hh.1
      rw [Array.toList_setIfInBounds] at hv
      rcases List.mem_or_eq_of_mem_set hv with hv | rfl
      · exact .inl (.inr ⟨g', cs, t, _, v, hg', hr, hv, hvk⟩)
      · exact hu k hvk
    · exact .inl (.inr ⟨g', c2, t', fr, v, hg', (Below.heap_setCell _ _ _ _ (by dsimp only; exact e)).symm.trans hh, hv, hvk⟩)
/-- a block that hangs on a root, and is none, is written -/
theorem KpR.grown {g : Nat} (hg : W.grownBy W' (some g)) (hm : mineR R W g) (hn : ¬ R g) (h0 : B0 ≤ g) (hz : B0 ≤ W.heap.size) (hR : Rooted R W) : KpR B0 R W W' := by
  refine ⟨hg.os, hg.tape, hg.output, hg.size, fun k hk => hg.block k (by omega) (fun e => by cases e; omega), fun k h => ?_, fun k o hk _ _ ho => hg.block k (Array.getElem?_eq_some_iff.1 ho).1 (fun e => by cases e; exact hk hm) |>.trans ho⟩
  rcases h with h | ⟨g', c2, t', fr, v, hg', hh, hv, hvk⟩
  · exact .inl (.inl h)
  · exact .inl (.inr ⟨g', c2, t', fr, v, hg', (hg.block g' (hR g' hg') (fun e => hn (by cases e; exact hg'))).symm.trans hh, hv, hvk⟩)
/-- nothing but a loop's record is turned -/
theorem KpR.loop {l : Nat} {r r' : Loop} (hl : W.heap[l]? = some (.loop r)) (h0 : B0 ≤ l) : KpR B0 R W (W.putObj l (.loop r')) := by
  refine ⟨rfl, rfl, rfl, by simp, fun k hk => World.putObj_heap_other (by omega), fun k h => ?_, fun k o _ h1 _ ho => (World.putObj_heap_other fun e => ?_).trans ho⟩
  · rcases h with h | ⟨g, c2, t, fr, v, hg, hh, hv⟩
    · exact .inl (.inl h)
    · refine .inl (.inr ⟨g, c2, t, fr, v, hg, ?_, hv⟩)
      by_cases e : g = l
      · subst e
        rw [World.putObj_heap_same (Array.getElem?_eq_some_iff.1 hl).1] at hh
        cases hh
      · exact (World.putObj_heap_other e).symm.trans hh
  · subst e; rw [hl] at ho; cases ho; exact h1 r rfl
/-- what an iterator beside the roots may do -/
theorem handsR : Hands B0 (KpR B0 R) (fun W => Rooted R W ∧ ∀ k, mineR R W k → k < W.heap.size) (fun W g => g < W.heap.size ∧ Rooted R W ∧ ¬ mineR R W g) where
  old _ _ h := ⟨h.os, h.tape, h.output, h.size, h.low⟩
  new W W' g hG hb h1 h2 := ⟨h2, fun r hr => Nat.lt_of_lt_of_le (hG.1 r hr) hb.size, fun hm => by have := hG.2 g (mineR_below hG.1 hb hm); omega⟩
  kept W W' g hk hs := ⟨⟨Nat.lt_of_lt_of_le hs.1 hk.size, fun r hr => Nat.lt_of_lt_of_le (hs.2.1 r hr) hk.size, fun hm => by
    rcases hk.mine g hm with e | e
    · exact hs.2.2 e
    · have := hs.1; omega⟩, fun o h1 h2 ho => hk.keep g o hs.2.2 h1 h2 ho⟩
  grow W W' g hs hb := ⟨Nat.lt_of_lt_of_le hs.1 hb.size, fun r hr => Nat.lt_of_lt_of_le (hs.2.1 r hr) hb.size, fun hm => hs.2.2 (mineR_below hs.2.1 hb hm)⟩
theorem handsR_set {S : Nat} (hS : ∀ r, R r → r < S) (X : World) (K g : Nat) (u : Value) (hK : S ≤ K) (hs : g < X.heap.size ∧ Rooted R X ∧ ¬ mineR R X g) : g < (X.setCell ⟨K, 0, none⟩ u).heap.size ∧ Rooted R (X.setCell ⟨K, 0, none⟩ u) ∧ ¬ mineR R (X.setCell ⟨K, 0, none⟩ u) g := by
  have e : (X.setCell ⟨K, 0, none⟩ u).heap.size = X.heap.size := by simp [World.setCell]
  refine ⟨by rw [e]; exact hs.1, fun r hr => by rw [e]; exact hs.2.1 r hr, fun hm => hs.2.2 ?_⟩
  rcases hm with h | ⟨g', c2, t, fr, v, hg, hh, hv⟩
  · exact .inl h
  · exact .inr ⟨g', c2, t, fr, v, hg, (Below.heap_setCell _ _ _ _ (by dsimp only; have := hS g' hg; omega)).symm.trans hh, hv⟩
end
end Go.Proofs.Ytignhjfobcnloaa
