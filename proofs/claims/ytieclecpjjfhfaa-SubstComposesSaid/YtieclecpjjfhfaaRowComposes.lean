/- SubstComposes: the statement: Compose of any bindings returns those of the reference, or its error. -/
import Derived.Test.YtieclecpjjfhfaaLawComposes
namespace Go.Proofs.Ytieclecpjjfhfaa
open Go.ChangeShapes Go.WideShapes Go.ChangeAt Go.RowKit Go.Joins
open Go.ChangeMaps (open_string)
namespace substComposes
theorem isLaw : IsLaw Rows.substComposesSpec 2 := ⟨rfl, fun H ds hd => by
  match ds, hd with
  | [d1, d2], _ => exact ⟨rfl, rfl, rfl⟩⟩
set_option maxRecDepth 100000 in
theorem walk : LawWalk 14 Try.f14.params.toList fun _ _ => True := by
  intro H enc W base args ds before hval hA hlt hsz _
  rw [Try.params14] at hA hval
  obtain ⟨v0, vs0, d0, ds0, p0, q0, hargs, rfl, rfl, h0, r0⟩ := trodAll_cons hA
  obtain ⟨v1, vs1, d1, ds1, p1, q1, rfl, rfl, rfl, h1, r1⟩ := trodAll_cons r0
  obtain ⟨rfl, rfl, rfl⟩ := trodAll_nil r1
  obtain rfl : args = #[v0, v1] := by cases args; simp_all
  obtain ⟨fuel0, hf0⟩ := h0
  obtain ⟨x0, s0, hx0, h0, z0⟩ := binds_of_trod hf0
  obtain ⟨A0, n0, c0, rfl⟩ := okWide_slice Try.underlying114 (hval 0 114 v0 rfl rfl)
  obtain rfl : x0 = .slice A0 n0 c0 := by simpa [Value.cells] using hx0.symm
  obtain ⟨fuel1, hf1⟩ := h1
  obtain ⟨x1, s1, hx1, h1, z1⟩ := binds_of_trod hf1
  obtain ⟨A1, n1, c1, rfl⟩ := okWide_slice Try.underlying114 (hval 1 114 v1 rfl rfl)
  obtain rfl : x1 = .slice A1 n1 c1 := by simpa [Value.cells] using hx1.symm
  exact law_composes W _ _ s0 s1 h0 h1 z0 z1
set_option maxRecDepth 100000 in
theorem lifted (os : Os) (started : os.Started) (H : Type) (enc : TypeId × Value → H) :
    ReturnsInHanded {} Try.checked os 14 .any (Rows.substComposesSpec.pre6 enc Try.prog Try.f14 [] false) (Rows.substComposesSpec.post enc Try.prog Try.f14 false true false false) :=
  law_returns started (by kernel_rfl) Try.func14 isLaw rfl rfl (by rw [Try.params14]; exact List.forall_mem_cons.2 ⟨⟨by kernel_rfl, of_decide_eq_true (by kernel_rfl)⟩, List.forall_mem_cons.2 ⟨⟨by kernel_rfl, of_decide_eq_true (by kernel_rfl)⟩, List.forall_mem_nil _⟩⟩)
    (ChangeSpec.witness6 (enc := enc) (C := Try.checked) false ⟨#[], #[.slice none 0 0, .slice none 0 0], []⟩ 8 (by kernel_rfl) (by kernel_rfl) (by kernel_rfl) (by kernel_rfl)) walk
/-- the statement -/
theorem proved : Rows.SubstComposesSaid :=
  OpenClaim.holds_of_wide 14 Try.f14 rfl rfl rfl rfl rfl rfl rfl ⟨rfl, rfl, rfl, rfl, rfl⟩ rfl rfl rfl rfl rfl (by kernel_rfl) Try.func14 (by kernel_rfl)
    (of_decide_eq_true (by kernel_rfl)) (by unfold Func.isWrapper; first | (rw [if_pos (by decide +kernel)]; kernel_rfl) | (rw [if_neg (by decide +kernel)]; exact ⟨rfl, rfl⟩))
    (fun os started H enc _ => lifted os started H enc)
#print axioms proved
end substComposes
end Go.Proofs.Ytieclecpjjfhfaa
