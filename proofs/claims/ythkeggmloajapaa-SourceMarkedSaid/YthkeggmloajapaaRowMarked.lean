/- SourceMarked: Marks of Unmark of parts are the same parts. -/
import Derived.Test.YthkeggmloajapaaLawMarked
import Derived.Test.YthkeggmloajapaaOpenMark
namespace Go.Proofs.Ythkeggmloajapaa
open Go.ChangeShapes Go.WideShapes Go.ChangeAt Go.RowKit Go.Joins
open Go.ChangeMaps (open_string)
namespace sourceMarked
theorem isLaw : IsLaw Rows.sourceMarkedSpec 2 := ⟨rfl, fun H ds hd => by
  match ds, hd with
  | [d1, d2], _ => exact ⟨rfl, rfl, rfl⟩⟩
set_option maxRecDepth 100000 in
theorem walk : LawWalkM 3 Try.f3.params.toList := by
  intro H enc W base args ds before hval hA hlt hsz hM
  rw [Try.params3] at hA hval
  obtain ⟨v0, vs0, d0, ds0, p0, q0, hargs, rfl, rfl, h0, r0⟩ := trodAll_cons hA
  obtain ⟨v1, vs1, d1, ds1, p1, q1, rfl, rfl, rfl, h1, r1⟩ := trodAll_cons r0
  obtain ⟨rfl, rfl, rfl⟩ := trodAll_nil r1
  obtain rfl : args = #[v0, v1] := by cases args; simp_all
  obtain ⟨a0, rfl, rfl, rfl, w0⟩ := open_string Try.underlying9 (hval 0 9 v0 rfl rfl) h0
  have z0 : a0.data.toList.length ≤ maxLen := by simpa using w0
  obtain ⟨fuel1, hf1⟩ := h1
  obtain ⟨x1, s1, hx1, h1, z1, b1⟩ := marks_of_trod hf1 (fun n hn => by have := List.all_eq_true.1 hsz n (DataW.weights_mem_each (j := 1) rfl rfl n hn); exact of_decide_eq_true this)
  obtain ⟨A1, n1, c1, rfl⟩ := okWide_slice Try.underlying22 (hval 1 22 v1 rfl rfl)
  obtain rfl : x1 = .slice A1 n1 c1 := by simpa [Value.cells] using hx1.symm
  exact law_marked W a0.data.toList _ s1 h1 hM b1 z1 z0
set_option maxRecDepth 100000 in
theorem lifted (os : Os) (started : os.Started) (H : Type) (enc : TypeId × Value → H) :
    ReturnsInHanded {} Try.checked os 3 .any (Rows.sourceMarkedSpec.pre6 enc Try.prog Try.f3 [] false) (Rows.sourceMarkedSpec.post enc Try.prog Try.f3 false true false false) :=
  law_returns_m started (by kernel_rfl) Try.func3 isLaw rfl rfl (by rw [Try.params3]; exact List.forall_mem_cons.2 ⟨⟨by kernel_rfl, of_decide_eq_true (by kernel_rfl)⟩, List.forall_mem_cons.2 ⟨⟨by kernel_rfl, of_decide_eq_true (by kernel_rfl)⟩, List.forall_mem_nil _⟩⟩)
    (ChangeSpec.witness6 (enc := enc) (C := Try.checked) false ⟨#[], #[.string ByteArray.empty, .slice none 0 0], []⟩ 8 (by kernel_rfl) (by kernel_rfl) (by kernel_rfl) (by kernel_rfl)) walk
/-- the statement -/
theorem proved : Rows.SourceMarkedSaid :=
  OpenClaim.holds_of_wide 3 Try.f3 rfl rfl rfl rfl rfl rfl rfl ⟨rfl, rfl, rfl, rfl, rfl⟩ rfl rfl rfl rfl rfl (by kernel_rfl) Try.func3 (by kernel_rfl)
    (of_decide_eq_true (by kernel_rfl)) (by unfold Func.isWrapper; first | (rw [if_pos (by decide +kernel)]; kernel_rfl) | (rw [if_neg (by decide +kernel)]; exact ⟨rfl, rfl⟩))
    (fun os started H enc _ => lifted os started H enc)
#print axioms proved
end sourceMarked
end Go.Proofs.Ythkeggmloajapaa
