/- SubstParts: the statement: without bindings, or with bindings of symbols that do not occur, Apply returns the formula; Apply of two formulas, one behind the other, is Apply of each. -/
import Derived.Test.YtignhjfobcnloaaLawParts
namespace Go.Proofs.Ytignhjfobcnloaa
open Go.ChangeShapes Go.WideShapes Go.ChangeAt Go.RowKit Go.Joins
open Go.ChangeMaps (open_string)
namespace substParts
theorem isLaw : IsLaw Rows.substPartsSpec 3 := ⟨rfl, fun H ds hd => by
  match ds, hd with
  | [d1, d2, d3], _ => exact ⟨rfl, rfl, rfl⟩⟩
set_option maxRecDepth 100000 in
theorem walk : LawWalk 3 Try.f3.params.toList fun _ _ => True := by
  intro H enc W base args ds before hval hA hlt hsz _
  rw [Try.params3] at hA hval
  obtain ⟨v0, vs0, d0, ds0, p0, q0, hargs, rfl, rfl, h0, r0⟩ := trodAll_cons hA
  obtain ⟨v1, vs1, d1, ds1, p1, q1, rfl, rfl, rfl, h1, r1⟩ := trodAll_cons r0
  obtain ⟨v2, vs2, d2, ds2, p2, q2, rfl, rfl, rfl, h2, r2⟩ := trodAll_cons r1
  obtain ⟨rfl, rfl, rfl⟩ := trodAll_nil r2
  obtain rfl : args = #[v0, v1, v2] := by cases args; simp_all
  obtain ⟨fuel0, hf0⟩ := h0
  obtain ⟨x0, s0, hx0, h0, z0⟩ := strs_of_trod Try.underlying22 Try.underlying9 (by kernel_rfl) hf0
  obtain ⟨A0, n0, c0, rfl⟩ := okWide_slice Try.underlying22 (hval 0 22 v0 rfl rfl)
  obtain rfl : x0 = .slice A0 n0 c0 := by simpa [Value.cells] using hx0.symm
  obtain ⟨fuel1, hf1⟩ := h1
  obtain ⟨x1, s1, hx1, h1, z1⟩ := strs_of_trod Try.underlying22 Try.underlying9 (by kernel_rfl) hf1
  obtain ⟨A1, n1, c1, rfl⟩ := okWide_slice Try.underlying22 (hval 1 22 v1 rfl rfl)
  obtain rfl : x1 = .slice A1 n1 c1 := by simpa [Value.cells] using hx1.symm
  obtain ⟨fuel2, hf2⟩ := h2
  obtain ⟨x2, s2, hx2, h2, z2⟩ := binds_of_trod hf2
  obtain ⟨A2, n2, c2, rfl⟩ := okWide_slice Try.underlying23 (hval 2 23 v2 rfl rfl)
  obtain rfl : x2 = .slice A2 n2 c2 := by simpa [Value.cells] using hx2.symm
  exact law_parts W _ _ _ s0 s1 s2 h0 h1 h2 z0 z1 z2
set_option maxRecDepth 100000 in
theorem lifted (os : Os) (started : os.Started) (H : Type) (enc : TypeId × Value → H) :
    ReturnsInHanded {} Try.checked os 3 .any (Rows.substPartsSpec.pre6 enc Try.prog Try.f3 [] false) (Rows.substPartsSpec.post enc Try.prog Try.f3 false true false false) :=
  law_returns started (by kernel_rfl) Try.func3 isLaw rfl rfl (by rw [Try.params3]; exact List.forall_mem_cons.2 ⟨⟨by kernel_rfl, of_decide_eq_true (by kernel_rfl)⟩, List.forall_mem_cons.2 ⟨⟨by kernel_rfl, of_decide_eq_true (by kernel_rfl)⟩, List.forall_mem_cons.2 ⟨⟨by kernel_rfl, of_decide_eq_true (by kernel_rfl)⟩, List.forall_mem_nil _⟩⟩⟩)
    (ChangeSpec.witness6 (enc := enc) (C := Try.checked) false ⟨#[], #[.slice none 0 0, .slice none 0 0, .slice none 0 0], []⟩ 8 (by kernel_rfl) (by kernel_rfl) (by kernel_rfl) (by kernel_rfl)) walk
/-- the statement -/
theorem proved : Rows.SubstPartsSaid :=
  OpenClaim.holds_of_wide 3 Try.f3 rfl rfl rfl rfl rfl rfl rfl ⟨rfl, rfl, rfl, rfl, rfl⟩ rfl rfl rfl rfl rfl (by kernel_rfl) Try.func3 (by kernel_rfl)
    (of_decide_eq_true (by kernel_rfl)) (by unfold Func.isWrapper; first | (rw [if_pos (by decide +kernel)]; kernel_rfl) | (rw [if_neg (by decide +kernel)]; exact ⟨rfl, rfl⟩))
    (fun os started H enc _ => lifted os started H enc)
#print axioms proved
end substParts
end Go.Proofs.Ytignhjfobcnloaa
