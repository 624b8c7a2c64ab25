/- SubstApart: the statement: Broken tells of just what Apart allows, and Apart of a composition is Apart of the second list's over Apart of the first's. -/
import Derived.Test.YtignhjfobcnloaaLawApart
namespace Go.Proofs.Ytignhjfobcnloaa
open Go.ChangeShapes Go.WideShapes Go.ChangeAt Go.RowKit Go.Joins
open Go.ChangeMaps (open_string)
namespace substApart
theorem isLaw : IsLaw Rows.substApartSpec 4 := ⟨rfl, fun H ds hd => by
  match ds, hd with
  | [d1, d2, d3, d4], _ => exact ⟨rfl, rfl, rfl⟩⟩
set_option maxRecDepth 100000 in
theorem walk : LawWalk 4 Try.f4.params.toList fun _ _ => True := by
  intro H enc W base args ds before hval hA hlt hsz _
  rw [Try.params4] at hA hval
  obtain ⟨v0, vs0, d0, ds0, p0, q0, hargs, rfl, rfl, h0, r0⟩ := trodAll_cons hA
  obtain ⟨v1, vs1, d1, ds1, p1, q1, rfl, rfl, rfl, h1, r1⟩ := trodAll_cons r0
  obtain ⟨v2, vs2, d2, ds2, p2, q2, rfl, rfl, rfl, h2, r2⟩ := trodAll_cons r1
  obtain ⟨v3, vs3, d3, ds3, p3, q3, rfl, rfl, rfl, h3, r3⟩ := trodAll_cons r2
  obtain ⟨rfl, rfl, rfl⟩ := trodAll_nil r3
  obtain rfl : args = #[v0, v1, v2, v3] := by cases args; simp_all
  obtain ⟨fuel0, hf0⟩ := h0
  obtain ⟨x0, s0, hx0, h0, z0⟩ := binds_of_trod hf0
  obtain ⟨A0, n0, c0, rfl⟩ := okWide_slice Try.underlying23 (hval 0 23 v0 rfl rfl)
  obtain rfl : x0 = .slice A0 n0 c0 := by simpa [Value.cells] using hx0.symm
  obtain ⟨fuel1, hf1⟩ := h1
  obtain ⟨x1, s1, hx1, h1, z1⟩ := binds_of_trod hf1
  obtain ⟨A1, n1, c1, rfl⟩ := okWide_slice Try.underlying23 (hval 1 23 v1 rfl rfl)
  obtain rfl : x1 = .slice A1 n1 c1 := by simpa [Value.cells] using hx1.symm
  obtain ⟨fuel2, hf2⟩ := h2
  obtain ⟨x2, s2, hx2, h2, z2⟩ := pairs_of_trod hf2
  obtain ⟨A2, n2, c2, rfl⟩ := okWide_slice Try.underlying36 (hval 2 36 v2 rfl rfl)
  obtain rfl : x2 = .slice A2 n2 c2 := by simpa [Value.cells] using hx2.symm
  obtain ⟨fuel3, hf3⟩ := h3
  obtain ⟨x3, s3, hx3, h3, z3⟩ := pairs_of_trod hf3
  obtain ⟨A3, n3, c3, rfl⟩ := okWide_slice Try.underlying36 (hval 3 36 v3 rfl rfl)
  obtain rfl : x3 = .slice A3 n3 c3 := by simpa [Value.cells] using hx3.symm
  exact law_apart W _ _ _ _ s0 s1 s2 s3 h0 h1 h2 h3 z0 z1 z2
set_option maxRecDepth 100000 in
theorem lifted (os : Os) (started : os.Started) (H : Type) (enc : TypeId × Value → H) :
    ReturnsInHanded {} Try.checked os 4 .any (Rows.substApartSpec.pre6 enc Try.prog Try.f4 [] false) (Rows.substApartSpec.post enc Try.prog Try.f4 false true false false) :=
  law_returns started (by kernel_rfl) Try.func4 isLaw rfl rfl (by rw [Try.params4]; exact List.forall_mem_cons.2 ⟨⟨by kernel_rfl, of_decide_eq_true (by kernel_rfl)⟩, List.forall_mem_cons.2 ⟨⟨by kernel_rfl, of_decide_eq_true (by kernel_rfl)⟩, List.forall_mem_cons.2 ⟨⟨by kernel_rfl, of_decide_eq_true (by kernel_rfl)⟩, List.forall_mem_cons.2 ⟨⟨by kernel_rfl, of_decide_eq_true (by kernel_rfl)⟩, List.forall_mem_nil _⟩⟩⟩⟩)
    (ChangeSpec.witness6 (enc := enc) (C := Try.checked) false ⟨#[], #[.slice none 0 0, .slice none 0 0, .slice none 0 0, .slice none 0 0], []⟩ 8 (by kernel_rfl) (by kernel_rfl) (by kernel_rfl) (by kernel_rfl)) walk
/-- the statement -/
theorem proved : Rows.SubstApartSaid :=
  OpenClaim.holds_of_wide 4 Try.f4 rfl rfl rfl rfl rfl rfl rfl ⟨rfl, rfl, rfl, rfl, rfl⟩ rfl rfl rfl rfl rfl (by kernel_rfl) Try.func4 (by kernel_rfl)
    (of_decide_eq_true (by kernel_rfl)) (by unfold Func.isWrapper; first | (rw [if_pos (by decide +kernel)]; kernel_rfl) | (rw [if_neg (by decide +kernel)]; exact ⟨rfl, rfl⟩))
    (fun os started H enc _ => lifted os started H enc)
#print axioms proved
end substApart
end Go.Proofs.Ytignhjfobcnloaa
