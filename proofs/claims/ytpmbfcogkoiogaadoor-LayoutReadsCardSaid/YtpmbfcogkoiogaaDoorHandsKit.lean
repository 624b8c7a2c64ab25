/- What an iterator asks of what a round keeps. -/
import Derived.Test.YtpmbfcogkoiogaaDoorMapSet
import Derived.Test.YtpmbfcogkoiogaaDoorRangeA
namespace Go.Proofs.YtpmbfcogkoiogaaDoor
open Go.RowKit
theorem cells_of' (w : World) (cs : Array Value) (t : TypeId) (l : List Value) {g : Nat} (hl : cs.toList = l) (hg : w.heap.size = g) : ∀ j u, l[j]? = some u → (w.alloc (.cells cs t)).cell? ((⟨g, 0, none⟩ : Addr).add j) = some u := by
  subst hg hl
  intro j u hu
  rw [addr_add, Nat.zero_add]
  exact (Row.new w t cs).cell (by simpa using hu)
/-- what the iterator asks of what a round keeps: old blocks, and its own -/
structure Hands (B0 : Nat) (Kp : World → World → Prop) (G : World → Prop) (Sf : World → Nat → Prop) : Prop where
  old : ∀ W W', Kp W W' → Below B0 W W'
  new : ∀ W W' g, G W → Below W.heap.size W W' → W.heap.size ≤ g → g < W'.heap.size → Sf W' g
  kept : ∀ W W' g, Kp W W' → Sf W g → Sf W' g ∧ ∀ o, (∀ r, o ≠ .loop r) → (∀ d, o ≠ .deferred d) → W.heap[g]? = some o → W'.heap[g]? = some o
  grow : ∀ W W' g, Sf W g → Below W.heap.size W W' → Sf W' g
section
variable {B0 : Nat} {Kp : World → World → Prop} {G : World → Prop} {Sf : World → Nat → Prop} {W W' : World}
theorem Hands.row (H : Hands B0 Kp G Sf) (hk : Kp W W') {g : Nat} (hs : Sf W g) {t : TypeId} {cs : Array Value} (hr : Row W g t cs) : Row W' g t cs := (H.kept W W' g hk hs).2 _ (by simp) (by simp) hr
theorem Hands.setm (H : Hands B0 Kp G Sf) (hk : Kp W W') {b : Nat} (hs : Sf W b) {l : List (List UInt8)} (hb : SetM W b l) : SetM W' b l := by
  obtain ⟨n, hn, ⟨es, clock, hh, hr⟩⟩ := hb
  exact ⟨n, hn, ⟨es, clock, (H.kept W W' b hk hs).2 _ (by simp) (by simp) hh, hr⟩⟩
theorem Hands.own (H : Hands B0 Kp G Sf) (hk : Kp W W') {base : Nat} {e : TypeId} {size n : Nat} {v : Value} {xs : List Value} (hs : ∀ g, v.ownBlock = some g → Sf W g) (ho : W.ownsRow base e size v n xs) : W'.ownsRow base e size v n xs := by
  refine ⟨ho.1, ?_⟩
  rcases ho.2 with h | ⟨g, cap, cur, rfl, hg, hh, r⟩
  · exact .inl h
  · exact .inr ⟨g, cap, cur, rfl, hg, (H.kept W W' g hk (hs g rfl)).2 _ (by simp) (by simp) hh, r⟩
end
end Go.Proofs.YtpmbfcogkoiogaaDoor
