/- A map from strings to bools that the call itself makes, as the set of its keys. -/
import Derived.Test.YtpmbfcogkoiogaaDoorBase2
import Derived.Maps.OwnSet
import Derived.Maps.OwnOps
import Derived.StringKeys
namespace Go.Proofs.YtpmbfcogkoiogaaDoor
open Go.RowKit Go.Maps
/-- block b is the map of which the keys in l read true -/
def SetM (w : World) (b : Nat) (l : List (List UInt8)) : Prop :=
  ∃ n, n ≤ l.length ∧ w.ownsMap (H := Unit) Tryd.prog 9 (plainElem Tryd.prog 4) b n (setOf (.lit (.bool true)) (l.map Lit.string))
theorem isKey_strs (l : List (List UInt8)) : ∀ x ∈ l.map Lit.string, WideAt.IsKeyLit x := by
  intro x hx
  obtain ⟨s, _, rfl⟩ := List.mem_map.1 hx
  exact trivial
theorem atKey_fold (k : Lit) : ∀ (acc : List Lit) (m : DataW Unit), IsMap m → (∀ x ∈ acc, WideAt.IsKeyLit x) →
    (k ∈ acc → (acc.foldl (fun m x => m.put x (.lit (.bool true))) m).atKey k (.lit (.bool false)) = .lit (.bool true)) ∧
    (k ∉ acc → (acc.foldl (fun m x => m.put x (.lit (.bool true))) m).atKey k (.lit (.bool false)) = m.atKey k (.lit (.bool false))) := by
  intro acc
  induction acc with
  | nil => intro m _ _; simp
  | cons x acc ih =>
    intro m hm hk
    obtain ⟨i1, i2⟩ := ih _ (hm.put x (.lit (.bool true))) (fun y hy => hk y (List.mem_cons_of_mem _ hy))
    refine ⟨fun h => ?_, fun h => ?_⟩
    · by_cases h1 : k ∈ acc
      · exact i1 h1
      · rcases List.mem_cons.1 h with h2 | h2
        · subst h2
          rw [List.foldl_cons, i2 h1, atKey_put_same hm (hk _ (List.mem_cons_self ..))]
        · exact absurd h2 h1
    · rw [List.foldl_cons, i2 (fun h1 => h (List.mem_cons_of_mem _ h1)), atKey_put_other (fun e => h (by rw [e]; exact List.mem_cons_self ..))]
theorem plainBool_inv {P : Program} {e : TypeId} (he : P.underlying e = some .bool) {v : Value} {x : Bool} {ps : List MemPlace} (h : plainElem (H := Unit) P e v = some (.lit (.bool x), ps)) : v = .bool x := by
  unfold plainElem at h
  rw [he] at h
  cases v <;> simp at h
  rw [h.1]
theorem SetM.new (w : World) : SetM (w.alloc (.map #[] 0)) w.heap.size [] := ⟨0, Nat.le_refl _, World.ownsMap_made _ _ _ _⟩
theorem SetM.lt {w : World} {b : Nat} {l : List (List UInt8)} (h : SetM w b l) : b < w.heap.size := by obtain ⟨n, _, h⟩ := h; exact h.lt
theorem SetM.kept {w w' : World} {b : Nat} {l : List (List UInt8)} {row : Option Nat} (h : SetM w b l) (hg : w.grownBy w' row) (hne : some b ≠ row) : SetM w' b l := by
  obtain ⟨n, hn, h⟩ := h
  exact ⟨n, hn, h.kept hg hne⟩
theorem SetM.below {w w' : World} {b : Nat} {l : List (List UInt8)} (h : SetM w b l) (hb : Below w.heap.size w w') : SetM w' b l :=
  h.kept (row := none) ⟨hb.os, hb.tape, hb.output, hb.size, fun k hk _ => hb.block k hk⟩ (by simp)
theorem keyOf_str (s : List UInt8) (hs : s.length ≤ maxLen) : keyOf Tryd.prog 9 (.string ⟨s.toArray⟩) = some (.string s) := by
  have := WideMaps.keyOf_string_mk (P := Tryd.prog) (k := 9) Tryd.underlying9 (s := ⟨s.toArray⟩) (by simpa [ByteArray.size] using hs)
  simpa using this
end Go.Proofs.YtpmbfcogkoiogaaDoor
