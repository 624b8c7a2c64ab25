/- A strings.Builder: what it leaves as it was. Layout: Write of the program. -/
import Derived.Test.YtpmbfcogkoiogaaGreatDoorBldA
import Derived.Test.YtpmbfcogkoiogaaGreatDoorLayLA
import Derived.Test.YtpmbfcogkoiogaaGreatDoorWordsPA
import Derived.Test.YtpmbfcogkoiogaaGreatDoorDocLA
import Derived.Test.YtpmbfcogkoiogaaGreatDoorLayAllA
import Derived.Deep.RegionHeld3
import Derived.Deep.DrawnRows
section
namespace Go.Proofs.YtpmbfcogkoiogaaGreatDoor
open Go.RowKit
def BldF (w : World) (b : Nat) (l : List UInt8) : Prop := Lib.IsBuilderF 57 5 b b (Lib.byteCells l) w
section
variable {w w' : World} {b : Nat} {l : List UInt8}
theorem BldF.of (h : Bld w b b l) : BldF w b l := Lib.IsBuilderF.of h
theorem BldF.new (w : World) : BldF (w.alloc (.cells #[.pointer none, .slice none 0 0] 57)) w.heap.size [] := .of (Bld.new w (Nat.le_refl _))
theorem ownF_below {base : Nat} {e : TypeId} {size n : Nat} {v : Value} {xs : List Value} (h : w.ownsRowF base e size v n xs) (hb : Below w.heap.size w w') : w'.ownsRowF base e size v n xs := by
  refine ⟨h.1, h.2.imp id fun ⟨g, cap, cur, fz, e1, hg, hh, r⟩ => ⟨g, cap, cur, fz, e1, hg, ?_, r⟩⟩
  exact (hb.block g (Array.getElem?_eq_some_iff.1 hh).1).trans hh
theorem builderAtF_below {T e : TypeId} {B : Nat} {p : Value} {bs : List Value} (h : Lib.BuilderAtF T e B b p bs w) (hb : Below w.heap.size w w') : Lib.BuilderAtF T e B b p bs w' := by
  obtain ⟨hB, v, h1, h2, h3⟩ := h
  exact ⟨hB, v, (hb.block b (Array.getElem?_eq_some_iff.1 h1).1).trans h1, ownF_below h2 hb, h3⟩
theorem BldF.below (h : BldF w b l) (hb : Below w.heap.size w w') : BldF w' b l := h.elim (fun h => .inl (builderAtF_below h hb)) (fun h => .inr (builderAtF_below h hb))
theorem BldF.block (h : BldF w b l) : ∃ cs, Row w b 57 cs := by
  rcases h with ⟨_, v, h, _⟩ | ⟨_, v, h, _⟩
  · exact ⟨_, h⟩
  · exact ⟨_, h⟩
theorem BldF.lt (h : BldF w b l) : b < w.heap.size := by
  obtain ⟨cs, h⟩ := h.block
  exact h.lt
/-- what a write into the builder leaves -/
structure Wrote (w w' : World) (b : Nat) : Prop where
  below : Below b w w'
  kept : Lib.OthersKept 5 (some b) w w'
theorem bldf_string (w : World) (b : Nat) (l : List UInt8) (h : BldF w b l) :
    Calls Tryz.prog 41 #[.pointer (some ⟨b, 0, none⟩)] w fun e w' => e = .returned (.string ⟨l.toArray⟩) ∧ Wrote w w' b := by
  refine (Tryz.Builder_String_any_k b b l w h (Nat.le_of_lt h.lt)).mono ?_
  rintro e w' ⟨he, _, hb, hk⟩
  exact ⟨he, hb, hk⟩
theorem Row.wrote {g : Nat} {t : TypeId} {cs : Array Value} (h : Row w g t cs) (hk : Wrote w w' b) (ht : t ≠ 5) (hg : g ≠ b) : Row w' g t cs :=
  hk.kept g _ h (by simpa using hg) (fun _ _ e => by cases e; exact ht rfl)
theorem own_wrote {base : Nat} {e : TypeId} {size n : Nat} {v : Value} {xs : List Value} (h : w.ownsRow base e size v n xs) (hk : Wrote w w' b) (hb : BldF w b l) (ht : e ≠ 5) (hT : e ≠ 57) : w'.ownsRow base e size v n xs := by
  obtain ⟨cs, hr⟩ := hb.block
  exact own_others h hk.kept ht hr hT
end
end Go.Proofs.YtpmbfcogkoiogaaGreatDoor
end
section
namespace Go.Proofs.YtpmbfcogkoiogaaGreatDoor
open Go.RowKit
attribute [local go_sem ↓] Go.wp_at_zero Go.wp_at_succ
/-- the sizes that Write is walked at -/
structure WrSz (d : List PartD) (tl : List UInt8) : Prop where
  doc : DocSz d
  proof : ∀ x ∈ d, x.1.proof.length ≤ 10000
  gaps : GapSz d
  tail : tl.length ≤ 40000
  all : (outS d ++ tl).length ≤ 1000000
  words : ∀ x ∈ d, ∀ u ∈ wordsS x.1, u.length ≤ 1000000
theorem allW_fine {l : List StmD} (h : (allW l).2 = 0) : ∀ x ∈ l, formedS x = true := by
  unfold allW at h
  split at h
  · cases h
  · split at h
    · rename_i h2
      exact List.all_eq_true.1 h2
    · cases h
theorem out_split {d : List PartD} {i : Nat} {y : PartD} (hy : d[i]? = some y) (j : Nat) : (outS d).length = (outS (d.take i) ++ ((y.2.zip (wordsS y.1)).take j).flatMap (fun p => p.1 ++ p.2)).length + ((((y.2.zip (wordsS y.1)).drop j).flatMap (fun p => p.1 ++ p.2)).length + (outS (d.drop (i + 1))).length) := by
  have hlt := (List.getElem?_eq_some_iff.1 hy).1
  have hd : d.drop i = y :: d.drop (i + 1) := by
    rw [List.drop_eq_getElem_cons hlt]
    congr 1
    exact (List.getElem?_eq_some_iff.1 hy).2
  conv => lhs; rw [← List.take_append_drop i d, hd]
  have h2 : outP y = ((y.2.zip (wordsS y.1)).take j).flatMap (fun p => p.1 ++ p.2) ++ ((y.2.zip (wordsS y.1)).drop j).flatMap (fun p => p.1 ++ p.2) := by
    rw [← List.flatMap_append, List.take_append_drop]
    rfl
  unfold outS at *
  rw [List.flatMap_append, List.flatMap_cons, h2]
  simp only [List.length_append]
  omega
end Go.Proofs.YtpmbfcogkoiogaaGreatDoor
end
