/- More words on slices: what a new block leaves as it was; a slice written out. -/
import Derived.Test.YtpmbfcogkoiogaaDoorBase
namespace Go.Proofs.YtpmbfcogkoiogaaDoor
open Go.RowKit
theorem then_ {w w1 w2 : World} (h : Below w.heap.size w w1) (k : Below w1.heap.size w1 w2) : Below w.heap.size w w2 := h.trans (k.mono h.size)
theorem new_ {w w1 : World} (h : Below w.heap.size w w1) (o : Obj) : Below w.heap.size w (w1.alloc o) := h.alloc h.size o
section
variable {w w' : World} {size n : Nat} {v : Value} {xs : List Value}
theorem Rds.alloc (h : Rds w size v n xs) (o : Obj) : Rds (w.alloc o) size v n xs := h.below ((Below.refl _ _).alloc (Nat.le_refl _) o)
/-- a slice over a whole new block -/
theorem Rds.lit (w : World) (t : TypeId) (cs : Array Value) (n : Nat) (hn : cs.size = n * size) (hm : n ≤ maxLen) : Rds (w.alloc (.cells cs t)) size (.slice (some ⟨w.heap.size, 0, none⟩) n n) n cs.toList :=
  ⟨_, n, rfl, Nat.le_refl _, hm, by simpa using hn, fun _ => ⟨w.heap.size, 0, rfl, fun j u hu => by
    rw [Nat.zero_add]
    exact (Row.new w t cs).cell (by simpa using hu)⟩⟩
end
theorem Ints.below {w w' : World} {v : Value} {l : List Int} (h : Ints w v l) (hb : Below w.heap.size w w') : Ints w' v l := Rds.below h hb
theorem Ints.alloc {w : World} {v : Value} {l : List Int} (h : Ints w v l) (o : Obj) : Ints (w.alloc o) v l := Rds.alloc h o
theorem Ints.lit (w : World) (t : TypeId) (l : List Int) (hm : l.length ≤ maxLen) : Ints (w.alloc (.cells (l.map (Value.int .i64)).toArray t)) (.slice (some ⟨w.heap.size, 0, none⟩) l.length l.length) l := by
  have := Rds.lit (size := 1) w t (l.map (Value.int .i64)).toArray l.length (by simp) hm
  simpa [Ints] using this
theorem ret_bool {a b : Bool} (h : a = b) : Ending.returned (.bool a) = .returned (.bool b) := by rw [h]
theorem ret_int {k : IntKind} {a b : Int} (h : a = b) : Ending.returned (.int k a) = .returned (.int k b) := by rw [h]
theorem ret_dec {p : Prop} [Decidable p] (h : ¬ p) : Ending.returned (.bool false) = .returned (.bool (decide p)) := by simp [h]
theorem ret_dec_t {p : Prop} [Decidable p] (h : p) : Ending.returned (.bool true) = .returned (.bool (decide p)) := by simp [h]
end Go.Proofs.YtpmbfcogkoiogaaDoor
