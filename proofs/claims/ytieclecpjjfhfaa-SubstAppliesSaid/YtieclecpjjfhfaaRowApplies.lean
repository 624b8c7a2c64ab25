/- SubstApplies: the statement: Check, Apply, Limited and Fits of any formulas and bindings return what the reference returns. -/
import Derived.Test.YtieclecpjjfhfaaLawApplies
namespace Go.Proofs.Ytieclecpjjfhfaa
open Go.ChangeShapes Go.WideShapes Go.ChangeAt Go.RowKit Go.Joins
namespace substApplies
theorem isLaw : IsLaw Rows.substAppliesSpec 4 := ⟨rfl, fun H ds hd => by
  match ds, hd with
  | [d1, d2, d3, d4], _ => exact ⟨rfl, rfl, rfl⟩⟩
set_option maxRecDepth 100000 in
theorem walk : LawWalk 13 Try.f13.params.toList fun _ _ => True := by
  intro H enc W base args ds before hval hA hlt hsz _
  rw [Try.params13] at hA hval
  obtain ⟨v0, vs0, d0, ds0, p0, q0, hargs, rfl, rfl, h0, r0⟩ := trodAll_cons hA
  obtain ⟨v1, vs1, d1, ds1, p1, q1, rfl, rfl, rfl, h1, r1⟩ := trodAll_cons r0
  obtain ⟨v2, vs2, d2, ds2, p2, q2, rfl, rfl, rfl, h2, r2⟩ := trodAll_cons r1
  obtain ⟨v3, vs3, d3, ds3, p3, q3, rfl, rfl, rfl, h3, r3⟩ := trodAll_cons r2
  obtain ⟨rfl, rfl, rfl⟩ := trodAll_nil r3
  obtain rfl : args = #[v0, v1, v2, v3] := by cases args; simp_all
  obtain ⟨fuel0, hf0⟩ := h0
  obtain ⟨pv, pat, hpv, hp, hsp⟩ := strs_of_trod Try.underlying24 Try.underlying9 (by kernel_rfl) hf0
  obtain ⟨A0, n0, c0, rfl⟩ := okWide_slice Try.underlying24 (hval 0 24 v0 rfl rfl)
  obtain rfl : pv = .slice A0 n0 c0 := by simpa [Value.cells] using hpv.symm
  obtain ⟨fuel1, hf1⟩ := h1
  obtain ⟨tv, text, htv, ht, hst⟩ := strs_of_trod Try.underlying24 Try.underlying9 (by kernel_rfl) hf1
  obtain ⟨A1, n1, c1, rfl⟩ := okWide_slice Try.underlying24 (hval 1 24 v1 rfl rfl)
  obtain rfl : tv = .slice A1 n1 c1 := by simpa [Value.cells] using htv.symm
  obtain ⟨fuel2, hf2⟩ := h2
  obtain ⟨lv, l, hlv, hl, hsl⟩ := binds_of_trod hf2
  obtain ⟨A2, n2, c2, rfl⟩ := okWide_slice Try.underlying114 (hval 2 114 v2 rfl rfl)
  obtain rfl : lv = .slice A2 n2 c2 := by simpa [Value.cells] using hlv.symm
  obtain ⟨a3, rfl, rfl, rfl, w3⟩ := open_int Try.underlying3 (hval 3 3 v3 rfl rfl) h3
  exact law_applies W _ _ _ pat text l a3 hp ht hl hsp (fun x hx => (hsl x hx).1) (by have := w3; simp [Lit.wf, IntKind.min, IntKind.max, IntKind.signed, IntKind.bits] at this; omega)
set_option maxRecDepth 100000 in
theorem lifted (os : Os) (started : os.Started) (H : Type) (enc : TypeId × Value → H) :
    ReturnsInHanded {} Try.checked os 13 .any (Rows.substAppliesSpec.pre6 enc Try.prog Try.f13 [] false) (Rows.substAppliesSpec.post enc Try.prog Try.f13 false true false false) :=
  law_returns started (by kernel_rfl) Try.func13 isLaw rfl rfl (by rw [Try.params13]; intro t ht; simp at ht; rcases ht with rfl | rfl | rfl <;> exact ⟨by kernel_rfl, of_decide_eq_true (by kernel_rfl)⟩)
    (ChangeSpec.witness6 (enc := enc) (C := Try.checked) false ⟨#[], #[.slice none 0 0, .slice none 0 0, .slice none 0 0, .int .i64 0], []⟩ 8 (by kernel_rfl) (by kernel_rfl) (by kernel_rfl) (by kernel_rfl)) walk
/-- the statement -/
theorem proved : Rows.SubstAppliesSaid :=
  OpenClaim.holds_of_wide 13 Try.f13 rfl rfl rfl rfl rfl rfl rfl ⟨rfl, rfl, rfl, rfl, rfl⟩ rfl rfl rfl rfl rfl (by kernel_rfl) Try.func13 (by kernel_rfl)
    (of_decide_eq_true (by kernel_rfl)) (by unfold Func.isWrapper; first | (rw [if_pos (by decide +kernel)]; kernel_rfl) | (rw [if_neg (by decide +kernel)]; exact ⟨rfl, rfl⟩))
    (fun os started H enc _ => lifted os started H enc)
#print axioms proved
end substApplies
end Go.Proofs.Ytieclecpjjfhfaa
