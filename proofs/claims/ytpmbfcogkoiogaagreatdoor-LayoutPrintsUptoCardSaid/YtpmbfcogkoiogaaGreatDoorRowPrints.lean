/- LayoutPrints: Print and Of of any statements return the results of the reference, or its error; Of has the same statements (arguments of together at most 1048576 values and letters; layout.forms as the program's text lays it). -/
import Derived.Test.YtpmbfcogkoiogaaGreatDoorFewPA
import Derived.Test.YtpmbfcogkoiogaaGreatDoorRowA
import Derived.Test.YtpmbfcogkoiogaaGreatDoorCards
import Derived.Test.YtpmbfcogkoiogaaGreatDoorTie
import Derived.Test.YtpmbfcogkoiogaaGreatDoorOpenStm
import Derived.SevenTiedAt
namespace Go.Proofs.YtpmbfcogkoiogaaGreatDoor
open Go.ChangeShapes Go.WideShapes Go.ChangeAt Go.RowKit Go.Joins
open Go.ChangeMaps (open_string)
namespace layoutPrints
theorem isLaw : IsLaw Rows.layoutPrintsSpec 2 := ⟨rfl, fun H ds hd => by
  match ds, hd with
  | [d1, d2], _ => exact ⟨rfl, rfl, rfl⟩⟩
set_option maxRecDepth 100000 in
theorem walk : LawWalkR 3 Tryz.f3.params.toList Rows.layoutPrintsUptoRow.laid fun _ ds => Rows.uptoBulkAll ds ≤ 1048576 := by
  intro H enc W base args ds before hval hA hlt hsz hL hM hbulk
  rw [Tryz.params3] at hA hval
  obtain ⟨v0, vs0, d0, ds0, p0, q0, hargs, rfl, rfl, h0, r0⟩ := trodAll_cons hA
  obtain ⟨v1, vs1, d1, ds1, p1, q1, rfl, rfl, rfl, h1, r1⟩ := trodAll_cons r0
  obtain ⟨rfl, rfl, rfl⟩ := trodAll_nil r1
  obtain rfl : args = #[v0, v1] := by cases args; simp_all
  simp only [Rows.uptoBulkAll] at hbulk
  obtain ⟨fuel0, hf0⟩ := h0
  obtain ⟨pv0, x0, hpv0, hp0, zs0, zb0⟩ := stms_of_trod hf0
  obtain ⟨A0, n0, c0, rfl⟩ := okWide_slice Tryz.underlying22 (hval 0 22 v0 rfl rfl)
  obtain rfl : pv0 = .slice A0 n0 c0 := by simpa [Value.cells] using hpv0.symm
  dsimp only at zb0
  obtain ⟨a1, rfl, rfl, rfl, w1⟩ := open_int Tryz.underlying3 (hval 1 3 v1 rfl rfl) h1
  have z1 : -9223372036854775808 ≤ a1 ∧ a1 ≤ 9223372036854775807 := by simp [Lit.wf, IntKind.min, IntKind.max, IntKind.signed, IntKind.bits] at w1; omega
  exact law_prints W _ x0 a1 hp0 hM (forms_of_laid hL) (by omega) (by omega) (by omega)
theorem laid_met (os : Os) : laidMet Tryz.prog Rows.layoutPrintsUptoRow.laid ((formsWorld os).forCall (fun _ _ => 0) ⟨#[], #[.slice none 0 0, .int .i64 0], []⟩).memory :=
  laidMet_of_run' 8 (by kernel_rfl) (by kernel_rfl)
theorem reads (os : Os) {H : Type} (enc : TypeId × Value → H) : ∃ places, DataW.whole enc Tryz.prog ((formsWorld os).forCall (fun _ _ => 0) ⟨#[], #[.slice none 0 0, .int .i64 0], []⟩).memory Tryz.f3.params.toList Rows.layoutPrintsSpec.vars false #[Value.slice none 0 0, .int .i64 0].toList 8 = some ([.nil, .lit (.int .i64 0)], [], places) :=
  ⟨[], by kernel_rfl⟩
set_option maxRecDepth 100000 in
theorem lifted (os : Os) (started : os.Started) (H : Type) (enc : TypeId × Value → H) (I : Stop.Interp) :
    ReturnsInHanded {} Tryz.checked os 3 .any ((Rows.OpenSpec.upto Rows.layoutPrintsSpec).preRow enc Tryz.prog Tryz.f3 Rows.layoutPrintsUptoRow.domain false Rows.layoutPrintsUptoRow.laid) (((Rows.OpenSpec.upto Rows.layoutPrintsSpec).at I).post enc Tryz.prog Tryz.f3 false true false false) := by
  obtain ⟨places, hx⟩ := reads os enc
  exact law_row started I (by kernel_rfl) Tryz.func3 isLaw rfl rfl (by rw [Tryz.params3]; intro t ht; simp at ht; rcases ht with rfl | rfl <;> exact ⟨by kernel_rfl, of_decide_eq_true (by kernel_rfl)⟩)
    rfl (by simp [DataSpec.varTypes, ChangeSpec.plain, Rows.OpenSpec.upto, OpenSpec.bare, OpenSpec.ofChange, isLaw.1]) rfl (ok := fun _ ds => Rows.uptoBulkAll ds ≤ 1048576) (fun ds hk => of_decide_eq_true (hk _ rfl))
    (witness_row_at (enc := enc) (C := Tryz.checked) false (formsWorld os) #[.slice none 0 0, .int .i64 0] rfl (by kernel_rfl) (by kernel_rfl) (by kernel_rfl)
      (OpenSpec.preRow_of_cond 8 hx (by kernel_rfl) (fun k hk => by cases hk; kernel_rfl) (by kernel_rfl) (laid_met os))) walk
theorem said : Rows.LayoutPrintsUptoSaid :=
  OpenClaim.holds_of_cond 3 Tryz.f3 rfl rfl rfl rfl rfl rfl rfl ⟨rfl, rfl, rfl, rfl, rfl⟩ rfl rfl rfl rfl rfl (by kernel_rfl) Tryz.func3 (by kernel_rfl)
    (of_decide_eq_true (by kernel_rfl)) (by unfold Func.isWrapper; first | (rw [if_pos (by decide +kernel)]; kernel_rfl) | (rw [if_neg (by decide +kernel)]; exact ⟨rfl, rfl⟩))
    (fun os started H enc _ I => by rw [OpenClaim.pre_eq_preRow]; exact lifted os started H enc I)
theorem plain (f : FuncId) (fn : Func) (hf : Tryz.pinned.checked.prog.funcNamed "apodixis/apodixislaw03.LayoutPrints" = some f) (hfn : Tryz.pinned.checked.prog.funcs[f]? = some fn) :
    false = Tryz.pinned.checked.prog.looks [] ∧ ∀ (j : Nat) t, fn.params[j]? = some t → Tryz.pinned.checked.prog.wantsStandIn t = false := by
  obtain rfl : f = 3 := Option.some.inj ((show Tryz.prog.funcNamed "apodixis/apodixislaw03.LayoutPrints" = some 3 by kernel_rfl).symm.trans hf) |>.symm
  obtain rfl : fn = Tryz.f3 := (Option.some.inj (Tryz.func3.symm.trans hfn)).symm
  refine ⟨by kernel_rfl, fun j t ht => ?_⟩
  rw [Tryz.params3] at ht
  have hm : t ∈ [22, 3] := by simpa using Array.mem_of_getElem? ht
  have hall : ([22, 3].all fun u => !Tryz.prog.wantsStandIn u) = true := by kernel_rfl
  exact (show Tryz.prog.wantsStandIn t = false by simpa using List.all_eq_true.1 hall t hm)
/-- the statement -/
theorem proved : Rows.LayoutPrintsUptoCardSaid :=
  Claim7.holds_tied_plain_at .later [] _ _ _ _ said (fun _ h => by cases h) (by kernel_rfl) (fun _ h => by cases h) layoutPrintsUpto_row_tie rfl ⟨rfl, rfl⟩ (by kernel_rfl) rfl plain (by kernel_rfl)
#print axioms proved
end layoutPrints
end Go.Proofs.YtpmbfcogkoiogaaGreatDoor
