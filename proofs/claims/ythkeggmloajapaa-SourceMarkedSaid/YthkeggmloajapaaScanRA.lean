/- Scan of the reference. A text with a comment keyword: the reference's question. slices.Equal of two lists of tokens, of comments, that read as the same list. -/
import Derived.Test.YthkeggmloajapaaScanWA
import Derived.RegionTactic
import Derived.Laws.StructEq
section
namespace Go.Proofs.Ythkeggmloajapaa
open Go.RowKit
theorem cls_one (c : Nat) : cls c = 1 ↔ c = 32 ∨ c = 9 ∨ c = 13 ∨ c = 10 ∨ c = 12 := by
  unfold cls
  split
  · omega
  · split
    · omega
    · split
      · omega
      · split <;> omega
theorem cls_print (c : Nat) : (33 ≤ c ∧ c ≤ 126) ↔ (cls c ≠ 0 ∧ cls c ≠ 1) := by
  unfold cls
  split
  · omega
  · split
    · omega
    · split
      · omega
      · split <;> omega
end Go.Proofs.Ythkeggmloajapaa
end
section
namespace Go.Proofs.Ythkeggmloajapaa
open Go.RowKit
theorem hasC_iff (s : List UInt8) : hasC s = true ↔ ∃ j : Nat, s[j]? = some 36 ∧ (s[j + 1]? = some 40 ∨ s[j + 1]? = some 41) := by
  unfold hasC
  rw [Bool.or_eq_true, hasB_iff, hasB_iff]
  constructor
  · rintro (⟨j, h1, h2⟩ | ⟨j, h1, h2⟩)
    · exact ⟨j, h1, .inl h2⟩
    · exact ⟨j, h1, .inr h2⟩
  · rintro ⟨j, h1, h2 | h2⟩
    · exact .inl ⟨j, h1, h2⟩
    · exact .inr ⟨j, h1, h2⟩
theorem byte_eq {s : List UInt8} {k n : Nat} (h : k < s.length) (b : UInt8) (hn : n = s[k].toNat) (hb : n = b.toNat) : s[k]? = some b := by
  rw [List.getElem?_eq_getElem h]
  congr 1
  exact UInt8.toNat_inj.1 (hn.symm.trans hb)
theorem byte_ne {s : List UInt8} {k n : Nat} (h : k < s.length) (b : UInt8) (hn : n = s[k].toNat) (hb : n ≠ b.toNat) : s[k]? ≠ some b := by
  rw [List.getElem?_eq_getElem h]
  intro e
  injection e with e
  exact hb (hn.trans (by rw [e]))
end Go.Proofs.Ythkeggmloajapaa
end
section
namespace Go.Proofs.Ythkeggmloajapaa
open Go.RowKit
theorem ComsAt.open_ {w : World} {v : Value} {l : List ComD} (h : ComsAt w v l) : ∃ A c, v = .slice A l.length c ∧ l.length ≤ c ∧ l.length ≤ maxLen ∧
    (∀ k x, l[k]? = some x → ∃ b o, A = some ⟨b, o, none⟩ ∧ w.cell? ⟨b, o + k * 4, none⟩ = some (.string ⟨x.1.toArray⟩) ∧ w.cell? ⟨b, o + k * 4 + 1, none⟩ = some (.int .i64 0) ∧ w.cell? ⟨b, o + k * 4 + 2, none⟩ = some (.int .i64 (x.2.1 : Nat)) ∧ w.cell? ⟨b, o + k * 4 + 3, none⟩ = some (.int .i64 (x.2.2 : Nat))) := by
  obtain ⟨A, c, hv, hc, hm, hl, hr⟩ := h
  refine ⟨A, c, hv, hc, hm, fun k x hx => ?_⟩
  have hk : k < l.length := (List.getElem?_eq_some_iff.1 hx).1
  obtain ⟨b, o, ha, hz⟩ := hr (by omega)
  have hf := fun i hi => flatN 4 comCells (fun _ => rfl) l k i x hx hi
  exact ⟨b, o, ha, hz (k * 4) _ (hf 0 (by omega)), hz (k * 4 + 1) _ (hf 1 (by omega)), hz (k * 4 + 2) _ (hf 2 (by omega)), hz (k * 4 + 3) _ (hf 3 (by omega))⟩
theorem ComsAt.below {w w' : World} {v : Value} {l : List ComD} (h : ComsAt w v l) (hb : Below w.heap.size w w') : ComsAt w' v l := Rds.below h hb
theorem heldTok : Try.prog.stoodInHeld 40 = false := by kernel_rfl
end Go.Proofs.Ythkeggmloajapaa
end
