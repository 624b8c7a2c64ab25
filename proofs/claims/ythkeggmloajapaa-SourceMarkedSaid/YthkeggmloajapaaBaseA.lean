/- Words on memory that all walks of this seat share: a block that is known whole, a slice that reads as a list, bytes and strings. More words on slices: what a new block leaves as it was; a slice written out. -/
import Derived.Test.YthkeggmloajapaaRows
import Derived.WalkKit
import Derived.RowKit
import Derived.Lib.Hide
import Derived.Laws.BytesString
import Derived.Deep.Draws
import Derived.Maps.AppendAt
section
namespace Go.Proofs.Ythkeggmloajapaa
open Go.RowKit

/-- block g is the row of cells cs of type t, none of them frozen -/
def Row (w : World) (g : Nat) (t : TypeId) (cs : Array Value) : Prop := w.heap[g]? = some (.cells cs t (0, 0))
section
variable {w w' : World} {g : Nat} {t : TypeId} {cs : Array Value}
theorem Row.lt (h : Row w g t cs) : g < w.heap.size := lt_of_block h
theorem Row.cell (h : Row w g t cs) {i : Nat} {v : Value} (hv : cs[i]? = some v) : w.cell? ⟨g, i, none⟩ = some v := by
  rw [cell_of_row w g i cs t (0, 0) h, hv]
theorem Row.free (h : Row w g t cs) (i : Nat) : w.frozen? ⟨g, i, none⟩ = false := frozen_of_row w g i cs t h
theorem Row.new (w : World) (t : TypeId) (cs : Array Value) : Row (w.alloc (.cells cs t)) w.heap.size t cs := heap_alloc_new w _
theorem Row.new' (w : World) (t : TypeId) (cs : Array Value) {g : Nat} (hg : g = w.heap.size) : Row (w.alloc (.cells cs t)) g t cs := hg ▸ Row.new w t cs
theorem Row.alloc (h : Row w g t cs) (o : Obj) : Row (w.alloc o) g t cs := (Below.heap_alloc w o g h.lt).trans h
theorem Row.set (h : Row w g t cs) (i : Nat) (u : Value) : Row (w.setCell ⟨g, i, none⟩ u) g t (cs.setIfInBounds i u) := heap_setCell_same w g i cs t u h
theorem Row.other (h : Row w g t cs) {p : Addr} (hp : g ≠ p.block) (u : Value) : Row (w.setCell p u) g t cs := (heap_setCell_other w p g u hp).trans h
theorem Row.below {B : Nat} (h : Row w g t cs) (hb : Below B w w') (hg : g < B) : Row w' g t cs := (hb.block g hg).trans h
theorem Row.grown {row : Option Nat} (h : Row w g t cs) (hb : w.grownBy w' row) (hg : some g ≠ row) : Row w' g t cs := (hb.block g h.lt hg).trans h
end

theorem Row.same1 {w : World} {g : Nat} {t : TypeId} {u : Value} (v : Value) (h : Row w g t #[u]) : Row (w.setCell ⟨g, 0, none⟩ v) g t #[v] := h.set 0 v
theorem Row.drew {w : World} {g : Nat} {t : TypeId} {cs : Array Value} (h : Row w g t cs) : Row w.drew g t cs := h
theorem Row.drewN {w : World} {g : Nat} {t : TypeId} {cs : Array Value} (h : Row w g t cs) (m : Nat) : Row (w.drewN m) g t cs := h

/-- a byte as a cell's value -/
def u8 (b : UInt8) : Value := .int .u8 (b.toNat : Int)

theorem foldl_push (l : List UInt8) : ∀ (s : ByteArray), (l.map fun b : UInt8 => (b.toNat : Int)).foldl (fun r n => r.push (UInt8.ofNat n.toNat)) s = ⟨s.data ++ l.toArray⟩ := by
  induction l with
  | nil => intro s; simp
  | cons b l ih =>
    intro s
    simp only [List.map_cons, List.foldl_cons]
    rw [ih]
    simp [ByteArray.push]

/-- a slice of bytes turned into a string -/
theorem run_str_of_bytes {P : Program} (w : World) (src dst e : TypeId) (a : Addr) (n c : Nat) (l : List UInt8)
    (hs : P.underlying src = some (.slice e)) (he : P.underlying e = some (.int .u8)) (hd : P.underlying dst = some .string) (hn : l.length = n)
    (hc : ∀ i b, l[i]? = some b → w.cell? (a.add i) = some (u8 b)) :
    (convert src dst (.slice (some a) n c)).run P w = .ok (.string ⟨l.toArray⟩) w := by
  subst hn
  rw [run_convert_bytes_string w src dst e (some a) l.length c hs he hd]
  have hl := run_loadCells_list (P := P) (w := w) a (l.map u8) (by
    intro j v hv
    rw [List.getElem?_map] at hv
    cases hb : l[j]? with
    | none => simp [hb] at hv
    | some b => simp [hb] at hv; rw [hc j b hb, ← hv])
  have hm : (l.map u8) = (l.map fun b : UInt8 => (b.toNat : Int)).map (Value.int .u8) := by simp [u8]
  rw [List.length_map, hm] at hl
  rw [run_bytesToString w a l.length c _ hl, foldl_push]
  simp

theorem addr_add (b o i : Nat) : (⟨b, o, none⟩ : Addr).add i = ⟨b, o + i, none⟩ := by
  unfold Addr.add; split <;> simp_all
theorem row_bytes {w : World} {g j : Nat} {t : TypeId} {cs : Array Value} {l : List UInt8} (h : Row w g t cs) (hd : cs.toList.drop j = l.map u8) :
    ∀ i b, l[i]? = some b → w.cell? ((⟨g, j, none⟩ : Addr).add i) = some (u8 b) := by
  intro i b hb
  rw [addr_add]
  refine h.cell ?_
  have h2 : (cs.toList.drop j)[i]? = some (u8 b) := by rw [hd, List.getElem?_map, hb]; rfl
  rw [List.getElem?_drop] at h2
  simpa using h2

theorem drop_set (cs : Array Value) (i : Nat) (u : Value) (hi : i < cs.size) : (cs.setIfInBounds i u).toList.drop i = u :: cs.toList.drop (i + 1) := by
  rw [Array.toList_setIfInBounds, List.drop_eq_getElem_cons (by simpa using hi)]
  simp [List.drop_set]

/-- the slice value v of n elements, 'size' cells each, reads as the cells xs -/
def Rds (w : World) (size : Nat) (v : Value) (n : Nat) (xs : List Value) : Prop :=
  ∃ A c, v = .slice A n c ∧ n ≤ c ∧ n ≤ maxLen ∧ xs.length = n * size ∧ (0 < n → ∃ b o, A = some ⟨b, o, none⟩ ∧ ∀ j u, xs[j]? = some u → w.cell? ⟨b, o + j, none⟩ = some u)
section
variable {w w' : World} {size n : Nat} {v : Value} {xs : List Value}
theorem Rds.nil_ : Rds w size (.slice none 0 0) 0 [] := ⟨none, 0, rfl, Nat.le_refl _, Nat.zero_le _, by simp, fun h => absurd h (by omega)⟩
theorem Rds.keep (h : Rds w size v n xs) (hk : ∀ p : Addr, p.block < w.heap.size → w'.cell? p = w.cell? p) : Rds w' size v n xs := by
  obtain ⟨A, c, hv, hc, hm, hl, hr⟩ := h
  refine ⟨A, c, hv, hc, hm, hl, fun hn => ?_⟩
  obtain ⟨b, o, ha, hx⟩ := hr hn
  exact ⟨b, o, ha, fun j u hu => (hk _ (block_lt_of_cell (hx j u hu))).trans (hx j u hu)⟩
theorem Rds.below (h : Rds w size v n xs) (hb : Below w.heap.size w w') : Rds w' size v n xs := h.keep fun _ hp => hb.cell hp
theorem Rds.drewN (h : Rds w size v n xs) (k : Nat) : Rds (w.drewN k) size v n xs := h
theorem Rds.of_own {base : Nat} {e : TypeId} (h : w.ownsRow base e size v n xs) : Rds w size v n xs := by
  have h0 := h
  obtain ⟨hl, hr⟩ := h
  rcases hr with ⟨rfl, rfl⟩ | ⟨g, cap, cur, rfl, _, _, hnc, hcm, _, _⟩
  · exact ⟨none, 0, rfl, Nat.le_refl _, Nat.zero_le _, hl, fun h => absurd h (by omega)⟩
  · refine ⟨some ⟨g, 0, none⟩, cap, rfl, hnc, by omega, hl, fun _ => ⟨g, 0, rfl, fun j u hu => ?_⟩⟩
    have := h0.cells (g := g) rfl j u hu
    rwa [addr_add] at this
end
theorem own_form {w : World} {base : Nat} {e : TypeId} {size n : Nat} {v : Value} {xs : List Value} (h : w.ownsRow base e size v n xs) : ∃ A c, v = .slice A n c ∧ n ≤ c := by
  rcases h.2 with ⟨rfl, rfl⟩ | ⟨g, cap, cur, rfl, _, _, hnc, _⟩
  · exact ⟨_, _, rfl, Nat.le_refl _⟩
  · exact ⟨_, _, rfl, hnc⟩
theorem own_block {w : World} {base : Nat} {e : TypeId} {size n : Nat} {v : Value} {xs : List Value} (h : w.ownsRow base e size v n xs) : ∀ k, v.ownBlock = some k → base ≤ k := fun k hk => (h.lt k hk).1
theorem own_snoc {α : Type} {w : World} {base : Nat} {e : TypeId} {v : Value} {out : List α} {f : α → Value} {x : α} {u : Value} {m : Nat} (h : w.ownsRow base e 1 v (m + 1) (out.map f ++ [u])) (hm : m = out.length) (hu : u = f x) :
    w.ownsRow base e 1 v (out ++ [x]).length ((out ++ [x]).map f) := by
  subst hu hm; simpa using h
/-- the last cell of a row of the call's own -/
theorem own_last {w : World} {base : Nat} {e : TypeId} {v : Value} {ys : List Value} {u : Value} {n : Nat} (h : w.ownsRow base e 1 v (n + 1) (ys ++ [u])) :
    ∃ g c, v = .slice (some ⟨g, 0, none⟩) (n + 1) c ∧ n + 1 ≤ c ∧ w.cell? ⟨g, n, none⟩ = some u := by
  have hl := h.1
  rcases h.2 with ⟨_, h0⟩ | ⟨g, cap, cur, rfl, _, _, hnc, _⟩
  · omega
  · refine ⟨g, cap, rfl, hnc, ?_⟩
    have := h.cells (g := g) rfl n u (by rw [List.getElem?_append_right (by simp at hl; omega)]; simp at hl; simp [hl])
    rwa [addr_add, Nat.zero_add] at this
/-- the slice value v reads as the list l of ints -/
def Ints (w : World) (v : Value) (l : List Int) : Prop := Rds w 1 v l.length (l.map (Value.int .i64))
/-- the slice value v reads as the list l of strings -/
def Strs (w : World) (v : Value) (l : List (List UInt8)) : Prop := Rds w 1 v l.length (l.map fun s => Value.string ⟨s.toArray⟩)

theorem below_drewN {B : Nat} {a w : World} (h : Below B a w) (n : Nat) : Below B a (w.drewN n) := ⟨h.os, h.tape, h.output, h.size, h.block⟩
end Go.Proofs.Ythkeggmloajapaa
end
section
namespace Go.Proofs.Ythkeggmloajapaa
open Go.RowKit
theorem then_ {w w1 w2 : World} (h : Below w.heap.size w w1) (k : Below w1.heap.size w1 w2) : Below w.heap.size w w2 := h.trans (k.mono h.size)
theorem new_ {w w1 : World} (h : Below w.heap.size w w1) (o : Obj) : Below w.heap.size w (w1.alloc o) := h.alloc h.size o
section
variable {w w' : World} {size n : Nat} {v : Value} {xs : List Value}
theorem Rds.alloc (h : Rds w size v n xs) (o : Obj) : Rds (w.alloc o) size v n xs := h.below ((Below.refl _ _).alloc (Nat.le_refl _) o)
/-- a slice over a whole new block -/
theorem Rds.lit (w : World) (t : TypeId) (cs : Array Value) (n : Nat) (hn : cs.size = n * size) (hm : n ≤ maxLen) : Rds (w.alloc (.cells cs t)) size (.slice (some ⟨w.heap.size, 0, none⟩) n n) n cs.toList :=
  ⟨_, n, rfl, Nat.le_refl _, hm, by simpa using hn, fun _ => ⟨w.heap.size, 0, rfl, fun j u hu => by
    rw [Nat.zero_add]
    exact (Row.new w t cs).cell (by simpa using hu)⟩⟩
end
theorem Ints.below {w w' : World} {v : Value} {l : List Int} (h : Ints w v l) (hb : Below w.heap.size w w') : Ints w' v l := Rds.below h hb
theorem Ints.alloc {w : World} {v : Value} {l : List Int} (h : Ints w v l) (o : Obj) : Ints (w.alloc o) v l := Rds.alloc h o
theorem Ints.lit (w : World) (t : TypeId) (l : List Int) (hm : l.length ≤ maxLen) : Ints (w.alloc (.cells (l.map (Value.int .i64)).toArray t)) (.slice (some ⟨w.heap.size, 0, none⟩) l.length l.length) l := by
  have := Rds.lit (size := 1) w t (l.map (Value.int .i64)).toArray l.length (by simp) hm
  simpa [Ints] using this
theorem ret_bool {a b : Bool} (h : a = b) : Ending.returned (.bool a) = .returned (.bool b) := by rw [h]
theorem ret_int {k : IntKind} {a b : Int} (h : a = b) : Ending.returned (.int k a) = .returned (.int k b) := by rw [h]
theorem ret_dec {p : Prop} [Decidable p] (h : ¬ p) : Ending.returned (.bool false) = .returned (.bool (decide p)) := by simp [h]
theorem ret_dec_t {p : Prop} [Decidable p] (h : p) : Ending.returned (.bool true) = .returned (.bool (decide p)) := by simp [h]
end Go.Proofs.Ythkeggmloajapaa
end
