/- A map from strings to bools that the call itself makes, as the set of its keys. What an iterator asks of what a round keeps. -/
import Derived.Test.YthkeggmloajapaaBaseA
import Derived.Maps.OwnSet
import Derived.Maps.OwnOps
import Derived.StringKeys
import Derived.Test.YthkeggmloajapaaRangeA
section
namespace Go.Proofs.Ythkeggmloajapaa
open Go.RowKit Go.Maps
/-- block b is the map of which the keys in l read true -/
def SetM (w : World) (b : Nat) (l : List (List UInt8)) : Prop :=
  ∃ n, n ≤ l.length ∧ w.ownsMap (H := Unit) Try.prog 9 (plainElem Try.prog 4) b n (setOf (.lit (.bool true)) (l.map Lit.string))
theorem isKey_strs (l : List (List UInt8)) : ∀ x ∈ l.map Lit.string, WideAt.IsKeyLit x := by
  intro x hx
  obtain ⟨s, _, rfl⟩ := List.mem_map.1 hx
  exact trivial
theorem atKey_fold (k : Lit) : ∀ (acc : List Lit) (m : DataW Unit), IsMap m → (∀ x ∈ acc, WideAt.IsKeyLit x) →
    (k ∈ acc → (acc.foldl (fun m x => m.put x (.lit (.bool true))) m).atKey k (.lit (.bool false)) = .lit (.bool true)) ∧
    (k ∉ acc → (acc.foldl (fun m x => m.put x (.lit (.bool true))) m).atKey k (.lit (.bool false)) = m.atKey k (.lit (.bool false))) := by
  intro acc
  induction acc with
  | nil => intro m _ _; simp
  | cons x acc ih =>
    intro m hm hk
    obtain ⟨i1, i2⟩ := ih _ (hm.put x (.lit (.bool true))) (fun y hy => hk y (List.mem_cons_of_mem _ hy))
    refine ⟨fun h => ?_, fun h => ?_⟩
    · by_cases h1 : k ∈ acc
      · exact i1 h1
      · rcases List.mem_cons.1 h with h2 | h2
        · subst h2
          rw [List.foldl_cons, i2 h1, atKey_put_same hm (hk _ (List.mem_cons_self ..))]
        · exact absurd h2 h1
    · rw [List.foldl_cons, i2 (fun h1 => h (List.mem_cons_of_mem _ h1)), atKey_put_other (fun e => h (by rw [e]; exact List.mem_cons_self ..))]
theorem plainBool_inv {P : Program} {e : TypeId} (he : P.underlying e = some .bool) {v : Value} {x : Bool} {ps : List MemPlace} (h : plainElem (H := Unit) P e v = some (.lit (.bool x), ps)) : v = .bool x := by
  unfold plainElem at h
  rw [he] at h
  cases v <;> simp at h
  rw [h.1]
theorem SetM.new (w : World) : SetM (w.alloc (.map #[] 0)) w.heap.size [] := ⟨0, Nat.le_refl _, World.ownsMap_made _ _ _ _⟩
theorem SetM.lt {w : World} {b : Nat} {l : List (List UInt8)} (h : SetM w b l) : b < w.heap.size := by obtain ⟨n, _, h⟩ := h; exact h.lt
theorem SetM.kept {w w' : World} {b : Nat} {l : List (List UInt8)} {row : Option Nat} (h : SetM w b l) (hg : w.grownBy w' row) (hne : some b ≠ row) : SetM w' b l := by
  obtain ⟨n, hn, h⟩ := h
  exact ⟨n, hn, h.kept hg hne⟩
theorem SetM.below {w w' : World} {b : Nat} {l : List (List UInt8)} (h : SetM w b l) (hb : Below w.heap.size w w') : SetM w' b l :=
  h.kept (row := none) ⟨hb.os, hb.tape, hb.output, hb.size, fun k hk _ => hb.block k hk⟩ (by simp)
theorem keyOf_str (s : List UInt8) (hs : s.length ≤ maxLen) : keyOf Try.prog 9 (.string ⟨s.toArray⟩) = some (.string s) := by
  have := WideMaps.keyOf_string_mk (P := Try.prog) (k := 9) Try.underlying9 (s := ⟨s.toArray⟩) (by simpa [ByteArray.size] using hs)
  simpa using this
end Go.Proofs.Ythkeggmloajapaa
end
section
namespace Go.Proofs.Ythkeggmloajapaa
open Go.RowKit
theorem cells_of' (w : World) (cs : Array Value) (t : TypeId) (l : List Value) {g : Nat} (hl : cs.toList = l) (hg : w.heap.size = g) : ∀ j u, l[j]? = some u → (w.alloc (.cells cs t)).cell? ((⟨g, 0, none⟩ : Addr).add j) = some u := by
  subst hg hl
  intro j u hu
  rw [addr_add, Nat.zero_add]
  exact (Row.new w t cs).cell (by simpa using hu)
/-- what the iterator asks of what a round keeps: old blocks, and its own -/
structure Hands (B0 : Nat) (Kp : World → World → Prop) (G : World → Prop) (Sf : World → Nat → Prop) : Prop where
  old : ∀ W W', Kp W W' → Below B0 W W'
  new : ∀ W W' g, G W → Below W.heap.size W W' → W.heap.size ≤ g → g < W'.heap.size → Sf W' g
  kept : ∀ W W' g, Kp W W' → Sf W g → Sf W' g ∧ ∀ o, (∀ r, o ≠ .loop r) → (∀ d, o ≠ .deferred d) → W.heap[g]? = some o → W'.heap[g]? = some o
  grow : ∀ W W' g, Sf W g → Below W.heap.size W W' → Sf W' g
section
variable {B0 : Nat} {Kp : World → World → Prop} {G : World → Prop} {Sf : World → Nat → Prop} {W W' : World}
theorem Hands.row (H : Hands B0 Kp G Sf) (hk : Kp W W') {g : Nat} (hs : Sf W g) {t : TypeId} {cs : Array Value} (hr : Row W g t cs) : Row W' g t cs := (H.kept W W' g hk hs).2 _ (by simp) (by simp) hr
theorem Hands.setm (H : Hands B0 Kp G Sf) (hk : Kp W W') {b : Nat} (hs : Sf W b) {l : List (List UInt8)} (hb : SetM W b l) : SetM W' b l := by
  obtain ⟨n, hn, ⟨es, clock, hh, hr⟩⟩ := hb
  exact ⟨n, hn, ⟨es, clock, (H.kept W W' b hk hs).2 _ (by simp) (by simp) hh, hr⟩⟩
theorem Hands.own (H : Hands B0 Kp G Sf) (hk : Kp W W') {base : Nat} {e : TypeId} {size n : Nat} {v : Value} {xs : List Value} (hs : ∀ g, v.ownBlock = some g → Sf W g) (ho : W.ownsRow base e size v n xs) : W'.ownsRow base e size v n xs := by
  refine ⟨ho.1, ?_⟩
  rcases ho.2 with h | ⟨g, cap, cur, rfl, hg, hh, r⟩
  · exact .inl h
  · exact .inr ⟨g, cap, cur, rfl, hg, (H.kept W W' g hk (hs g rfl)).2 _ (by simp) (by simp) hh, r⟩
end
end Go.Proofs.Ythkeggmloajapaa
end
