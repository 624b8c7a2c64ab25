/- A strings.Builder: what it leaves as it was. -/
import Derived.Test.YtpmbfcogkoiogaaDoorBldA
import Derived.Test.YtpmbfcogkoiogaaDoorLayLA
namespace Go.Proofs.YtpmbfcogkoiogaaDoor
open Go.RowKit
def BldF (w : World) (b : Nat) (l : List UInt8) : Prop := Lib.IsBuilderF 97 5 b b (Lib.byteCells l) w
section
variable {w w' : World} {b : Nat} {l : List UInt8}
theorem BldF.of (h : Bld w b b l) : BldF w b l := Lib.IsBuilderF.of h
theorem BldF.new (w : World) : BldF (w.alloc (.cells #[.pointer none, .slice none 0 0] 97)) w.heap.size [] := .of (Bld.new w (Nat.le_refl _))
theorem ownF_below {base : Nat} {e : TypeId} {size n : Nat} {v : Value} {xs : List Value} (h : w.ownsRowF base e size v n xs) (hb : Below w.heap.size w w') : w'.ownsRowF base e size v n xs := by
  refine ⟨h.1, h.2.imp id fun ⟨g, cap, cur, fz, e1, hg, hh, r⟩ => ⟨g, cap, cur, fz, e1, hg, ?_, r⟩⟩
  exact (hb.block g (Array.getElem?_eq_some_iff.1 hh).1).trans hh
theorem builderAtF_below {T e : TypeId} {B : Nat} {p : Value} {bs : List Value} (h : Lib.BuilderAtF T e B b p bs w) (hb : Below w.heap.size w w') : Lib.BuilderAtF T e B b p bs w' := by
  obtain ⟨hB, v, h1, h2, h3⟩ := h
  exact ⟨hB, v, (hb.block b (Array.getElem?_eq_some_iff.1 h1).1).trans h1, ownF_below h2 hb, h3⟩
theorem BldF.below (h : BldF w b l) (hb : Below w.heap.size w w') : BldF w' b l := h.elim (fun h => .inl (builderAtF_below h hb)) (fun h => .inr (builderAtF_below h hb))
theorem BldF.block (h : BldF w b l) : ∃ cs, Row w b 97 cs := by
  rcases h with ⟨_, v, h, _⟩ | ⟨_, v, h, _⟩
  · exact ⟨_, h⟩
  · exact ⟨_, h⟩
theorem BldF.lt (h : BldF w b l) : b < w.heap.size := by
  obtain ⟨cs, h⟩ := h.block
  exact h.lt
/-- what a write into the builder leaves -/
structure Wrote (w w' : World) (b : Nat) : Prop where
  below : Below b w w'
  kept : Lib.OthersKept 5 (some b) w w'
theorem bldf_str (w : World) (b : Nat) (l s : List UInt8) (h : BldF w b l) (hl : l.length ≤ 1000000000) (hs : s.length ≤ 1000000000) :
    Calls Tryd.prog 60 #[.pointer (some ⟨b, 0, none⟩), .string ⟨s.toArray⟩] w fun e w' => (∃ v, e = .returned v) ∧ BldF w' b (l ++ s) ∧ Wrote w w' b := by
  refine (Tryd.Builder_WriteString_k b b _ ⟨s.toArray⟩ w h (by rw [Lib.byteCells_length]; simp [ByteArray.size]; omega) (Nat.le_of_lt h.lt)).mono ?_
  rintro e w' ⟨he, hb, hB', hk⟩
  exact ⟨⟨_, he⟩, .inr (by rw [Lib.byteCells_append]; exact hb), hB', hk⟩
theorem bldf_string (w : World) (b : Nat) (l : List UInt8) (h : BldF w b l) :
    Calls Tryd.prog 61 #[.pointer (some ⟨b, 0, none⟩)] w fun e w' => e = .returned (.string ⟨l.toArray⟩) ∧ Wrote w w' b := by
  refine (Tryd.Builder_String_any_k b b l w h (Nat.le_of_lt h.lt)).mono ?_
  rintro e w' ⟨he, _, hb, hk⟩
  exact ⟨he, hb, hk⟩
theorem Row.wrote {g : Nat} {t : TypeId} {cs : Array Value} (h : Row w g t cs) (hk : Wrote w w' b) (ht : t ≠ 5) (hg : g ≠ b) : Row w' g t cs :=
  hk.kept g _ h (by simpa using hg) (fun _ _ e => by cases e; exact ht rfl)
theorem own_wrote {base : Nat} {e : TypeId} {size n : Nat} {v : Value} {xs : List Value} (h : w.ownsRow base e size v n xs) (hk : Wrote w w' b) (hb : BldF w b l) (ht : e ≠ 5) (hT : e ≠ 97) : w'.ownsRow base e size v n xs := by
  obtain ⟨cs, hr⟩ := hb.block
  exact own_others h hk.kept ht hr hT
end
end Go.Proofs.YtpmbfcogkoiogaaDoor
