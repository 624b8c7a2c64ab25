/- Strip of the program. -/
import Derived.Test.YtpmbfcogkoiogaaDoorPlainA
import Derived.Test.YtpmbfcogkoiogaaDoorScanWalk
import Derived.Test.YtpmbfcogkoiogaaDoorLawA
import Derived.Lib.IndexMore
namespace Go.Proofs.YtpmbfcogkoiogaaDoor
open Go.RowKit
theorem flatN {α : Type} (n : Nat) (f : α → List Value) (hf : ∀ x, (f x).length = n) : ∀ (l : List α) (k i : Nat) (x : α), l[k]? = some x → i < n → (l.flatMap f)[k * n + i]? = (f x)[i]? := by
  intro l
  induction l with
  | nil => intro k i x h; simp at h
  | cons a l ih =>
    intro k i x h hi
    rw [List.flatMap_cons]
    cases k with
    | zero =>
      obtain rfl : a = x := by simpa using h
      rw [List.getElem?_append_left (by rw [hf]; omega)]
      congr 1; omega
    | succ k =>
      rw [List.getElem?_append_right (by rw [hf, Nat.succ_mul]; omega), hf]
      rw [← ih k i x (by simpa using h) hi]
      congr 1; rw [Nat.succ_mul]; omega
theorem ToksAt.open_ {w : World} {v : Value} {l : List TokD} (h : ToksAt w v l) : ∃ A c, v = .slice A l.length c ∧ l.length ≤ c ∧ l.length ≤ maxLen ∧
    (∀ k x, l[k]? = some x → ∃ b o, A = some ⟨b, o, none⟩ ∧ w.cell? ⟨b, o + k * 2, none⟩ = some (.string ⟨x.1.toArray⟩) ∧ w.cell? ⟨b, o + k * 2 + 1, none⟩ = some (.int .i64 (x.2 : Nat))) := by
  obtain ⟨A, c, hv, hc, hm, hl, hr⟩ := h
  refine ⟨A, c, hv, hc, hm, fun k x hx => ?_⟩
  have hk : k < l.length := (List.getElem?_eq_some_iff.1 hx).1
  obtain ⟨b, o, ha, hz⟩ := hr (by omega)
  have hf := fun i hi => flatN 2 tokCells (fun _ => rfl) l k i x hx hi
  exact ⟨b, o, ha, hz (k * 2) _ (hf 0 (by omega)), hz (k * 2 + 1) _ (hf 1 (by omega))⟩
theorem ToksAt.below {w w' : World} {v : Value} {l : List TokD} (h : ToksAt w v l) (hb : Below w.heap.size w w') : ToksAt w' v l := Rds.below h hb
def comCells (x : ComD) : List Value := [.string ⟨x.1.toArray⟩, .int .i64 0, .int .i64 (x.2.1 : Nat), .int .i64 (x.2.2 : Nat)]
/-- the slice value v reads as the comments l -/
def ComsAt (w : World) (v : Value) (l : List ComD) : Prop := Rds w 4 v l.length (l.flatMap comCells)
theorem infoCom : (Tryd.prog.info? 137).map (fun i => (i.zero, i.size, i.bytes)) = some (some (.agg #[.string ⟨#[]⟩, .int .i64 0, .int .i64 0, .int .i64 0]), 4, 40) := by kernel_rfl
theorem index_two (a b : UInt8) : ∀ (l : List UInt8), -1 ≤ Lib.index l [a, b] ∧ decide (0 ≤ Lib.index l [a, b]) = hasB a b l := by
  intro l
  induction l with
  | nil => exact ⟨by simp [Lib.index], by simp [Lib.index, hasB]⟩
  | cons x l ih =>
    obtain ⟨h1, h2⟩ := ih
    unfold Lib.index hasB
    have hp : List.isPrefixOf [a, b] (x :: l) = (x == a && l.head? == some b) := by
      cases l with
      | nil => simp [List.isPrefixOf]
      | cons y l =>
        simp only [List.isPrefixOf, List.head?_cons, Bool.and_true]
        rw [Bool.eq_iff_iff]; simp; constructor <;> (rintro ⟨rfl, rfl⟩; exact ⟨rfl, rfl⟩)
    rw [hp]
    by_cases hc : (x == a && l.head? == some b) = true
    · rw [if_pos hc, hc]; simp
    · rw [if_neg hc, Bool.not_eq_true _ |>.mp hc, Bool.false_or, ← h2]
      by_cases h3 : Lib.index l [a, b] = -1
      · simp [h3]
      · have : (Lib.index l [a, b] == -1) = false := by simpa using h3
        rw [this]
        simp
        omega
theorem contains_two (w : World) (s : List UInt8) (a b : UInt8) (hM : MaxAt w) (hs : s.length ≤ 40000) :
    Calls Tryd.prog 92 #[.string ⟨s.toArray⟩, .string ⟨#[a, b]⟩] w fun e w' => e = .returned (.bool (hasB a b s)) ∧ w = w' := by
  obtain ⟨m, hm⟩ := hM
  refine (Tryd.strings_Contains ⟨s.toArray⟩ ⟨#[a, b]⟩ m w (by simp [ByteArray.size]; omega) hm).mono ?_
  rintro e w' ⟨he, hw⟩
  exact ⟨by rw [he, ← (index_two a b s).2]; rfl, hw.symm⟩
theorem cells_at' (w : World) (cs : Array Value) (t : TypeId) (l : List Value) {g : Nat} (hl : cs.toList = l) (hg : w.heap.size = g) : ∀ j u, l[j]? = some u → (w.alloc (.cells cs t)).cell? ((⟨g, 0, none⟩ : Addr).add j) = some u := by
  subst hg; exact cells_at w cs t l hl
theorem coms_snoc {w : World} {base : Nat} {e : TypeId} {v : Value} {l : List ComD} {t : ComD} {X : List Value} {n : Nat} (h : w.ownsRow base e 4 v (n + 1) (X ++ comCells t)) (hX : X = l.flatMap comCells) (hn : n = l.length) :
    w.ownsRow base e 4 v (l ++ [t]).length ((l ++ [t]).flatMap comCells) := by
  subst hX hn; simpa [List.flatMap_append] using h
/-- where the comment begins; -1: none is open -/
def opI (o : Option Nat) : Int := match o with | none => -1 | some i => i
end Go.Proofs.YtpmbfcogkoiogaaDoor
