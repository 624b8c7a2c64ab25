/- LayoutLines: each line of Print is at most width bytes long, or has a single word (arguments of together at most 1048576 values and letters; layout.forms, strings.asciiSpace and unicode.White_Space as their texts lay them). -/
import Derived.Test.YtpmbfcogkoiogaaDoorPrSmA
import Derived.Test.YtpmbfcogkoiogaaDoorRowA
import Derived.Test.YtpmbfcogkoiogaaDoorCards
import Derived.Test.YtpmbfcogkoiogaaDoorTie
import Derived.Test.YtpmbfcogkoiogaaDoorOpenStm
import Derived.SevenTiedAt
namespace Go.Proofs.YtpmbfcogkoiogaaDoor
open Go.ChangeShapes Go.WideShapes Go.ChangeAt Go.RowKit Go.Joins
open Go.ChangeMaps (open_string)
namespace layoutLines
theorem isLaw : IsLaw Rows.layoutLinesSpec 2 := ⟨rfl, fun H ds hd => by
  match ds, hd with
  | [d1, d2], _ => exact ⟨rfl, rfl, rfl⟩⟩
set_option maxRecDepth 100000 in
theorem walk : LawWalkR 5 Tryd.f5.params.toList Rows.layoutLinesUptoRow.laid fun _ ds => Rows.uptoBulkAll ds ≤ 1048576 := by
  intro H enc W base args ds before hval hA hlt hsz hL hM hbulk
  rw [Tryd.params5] at hA hval
  obtain ⟨v0, vs0, d0, ds0, p0, q0, hargs, rfl, rfl, h0, r0⟩ := trodAll_cons hA
  obtain ⟨v1, vs1, d1, ds1, p1, q1, rfl, rfl, rfl, h1, r1⟩ := trodAll_cons r0
  obtain ⟨rfl, rfl, rfl⟩ := trodAll_nil r1
  obtain rfl : args = #[v0, v1] := by cases args; simp_all
  simp only [Rows.uptoBulkAll] at hbulk
  obtain ⟨fuel0, hf0⟩ := h0
  obtain ⟨pv0, x0, hpv0, hp0, zs0, zb0⟩ := stms_of_trod hf0
  obtain ⟨A0, n0, c0, rfl⟩ := okWide_slice Tryd.underlying23 (hval 0 23 v0 rfl rfl)
  obtain rfl : pv0 = .slice A0 n0 c0 := by simpa [Value.cells] using hpv0.symm
  dsimp only at zb0
  obtain ⟨a1, rfl, rfl, rfl, w1⟩ := open_int Tryd.underlying3 (hval 1 3 v1 rfl rfl) h1
  have z1 : -9223372036854775808 ≤ a1 ∧ a1 ≤ 9223372036854775807 := by simp [Lit.wf, IntKind.min, IntKind.max, IntKind.signed, IntKind.bits] at w1; omega
  exact law_lines W _ x0 a1 hp0 (lines_laid hL).1 (lines_laid hL).2 (by omega) (by omega) (by omega)
theorem laid_met (os : Os) : laidMet Tryd.prog Rows.layoutLinesUptoRow.laid ((linesWorld os).forCall (fun _ _ => 0) ⟨#[], #[.slice none 0 0, .int .i64 0], []⟩).memory :=
  laidMet_of_run' 8 (by kernel_rfl) (by kernel_rfl)
theorem reads (os : Os) {H : Type} (enc : TypeId × Value → H) : ∃ places, DataW.whole enc Tryd.prog ((linesWorld os).forCall (fun _ _ => 0) ⟨#[], #[.slice none 0 0, .int .i64 0], []⟩).memory Tryd.f5.params.toList Rows.layoutLinesSpec.vars false #[Value.slice none 0 0, .int .i64 0].toList 8 = some ([.nil, .lit (.int .i64 0)], [], places) :=
  ⟨[], by kernel_rfl⟩
set_option maxRecDepth 100000 in
theorem lifted (os : Os) (started : os.Started) (H : Type) (enc : TypeId × Value → H) (I : Stop.Interp) :
    ReturnsInHanded {} Tryd.checked os 5 .any ((Rows.OpenSpec.upto Rows.layoutLinesSpec).preRow enc Tryd.prog Tryd.f5 Rows.layoutLinesUptoRow.domain false Rows.layoutLinesUptoRow.laid) (((Rows.OpenSpec.upto Rows.layoutLinesSpec).at I).post enc Tryd.prog Tryd.f5 false true false false) := by
  obtain ⟨places, hx⟩ := reads os enc
  exact law_row started I (by kernel_rfl) Tryd.func5 isLaw rfl rfl (by rw [Tryd.params5]; intro t ht; simp at ht; rcases ht with rfl | rfl <;> exact ⟨by kernel_rfl, of_decide_eq_true (by kernel_rfl)⟩)
    rfl (by simp [DataSpec.varTypes, ChangeSpec.plain, Rows.OpenSpec.upto, OpenSpec.bare, OpenSpec.ofChange, isLaw.1]) rfl (ok := fun _ ds => Rows.uptoBulkAll ds ≤ 1048576) (fun ds hk => of_decide_eq_true (hk _ rfl))
    (witness_row_atRef (enc := enc) (C := Tryd.checked) false (linesWorld os) #[.slice none 0 0, .int .i64 0] rfl (by kernel_rfl) (by kernel_rfl) (by kernel_rfl)
      (OpenSpec.preRow_of_cond 8 hx (by kernel_rfl) (fun k hk => by cases hk; kernel_rfl) (by kernel_rfl) (laid_met os))) walk
theorem said : Rows.LayoutLinesUptoSaid :=
  OpenClaim.holds_of_cond 5 Tryd.f5 rfl rfl rfl rfl rfl rfl rfl ⟨rfl, rfl, rfl, rfl, rfl⟩ rfl rfl rfl rfl rfl (by kernel_rfl) Tryd.func5 (by kernel_rfl)
    (of_decide_eq_true (by kernel_rfl)) (by unfold Func.isWrapper; first | (rw [if_pos (by decide +kernel)]; kernel_rfl) | (rw [if_neg (by decide +kernel)]; exact ⟨rfl, rfl⟩))
    (fun os started H enc _ I => by rw [OpenClaim.pre_eq_preRow]; exact lifted os started H enc I)
theorem plain (f : FuncId) (fn : Func) (hf : Tryd.pinned.checked.prog.funcNamed "apodixis/apodixislaw03.LayoutLines" = some f) (hfn : Tryd.pinned.checked.prog.funcs[f]? = some fn) :
    false = Tryd.pinned.checked.prog.looks [] ∧ ∀ (j : Nat) t, fn.params[j]? = some t → Tryd.pinned.checked.prog.wantsStandIn t = false := by
  obtain rfl : f = 5 := Option.some.inj ((show Tryd.prog.funcNamed "apodixis/apodixislaw03.LayoutLines" = some 5 by kernel_rfl).symm.trans hf) |>.symm
  obtain rfl : fn = Tryd.f5 := (Option.some.inj (Tryd.func5.symm.trans hfn)).symm
  refine ⟨by kernel_rfl, fun j t ht => ?_⟩
  rw [Tryd.params5] at ht
  have hm : t ∈ [23, 3] := by simpa using Array.mem_of_getElem? ht
  have hall : ([23, 3].all fun u => !Tryd.prog.wantsStandIn u) = true := by kernel_rfl
  exact (show Tryd.prog.wantsStandIn t = false by simpa using List.all_eq_true.1 hall t hm)
/-- the statement -/
theorem proved : Rows.LayoutLinesUptoCardSaid :=
  Claim7.holds_tied_plain_at .later [] _ _ _ _ said (fun _ h => by cases h) (by kernel_rfl) (fun _ h => by cases h) layoutLinesUpto_row_tie rfl ⟨rfl, rfl⟩ (by kernel_rfl) rfl plain (by kernel_rfl)
#print axioms proved
end layoutLines
end Go.Proofs.YtpmbfcogkoiogaaDoor
