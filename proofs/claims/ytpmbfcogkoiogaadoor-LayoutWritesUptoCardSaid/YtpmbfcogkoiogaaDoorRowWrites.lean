/- LayoutWrites: Statements and Write of any document return the results of the reference, or its error; Read of the text is the document (arguments of together at most 1048576 values and letters; layout.forms as the program's text lays it). -/
import Derived.Test.YtpmbfcogkoiogaaDoorLawWA
import Derived.Test.YtpmbfcogkoiogaaDoorRowA
import Derived.Test.YtpmbfcogkoiogaaDoorCards
import Derived.Test.YtpmbfcogkoiogaaDoorTie
import Derived.Test.YtpmbfcogkoiogaaDoorOpenDA
import Derived.SevenTiedAt
namespace Go.Proofs.YtpmbfcogkoiogaaDoor
open Go.ChangeShapes Go.WideShapes Go.ChangeAt Go.RowKit Go.Joins
open Go.ChangeMaps (open_string)
namespace layoutWrites
theorem isLaw : IsLaw Rows.layoutWritesSpec 1 := ⟨rfl, fun H ds hd => by
  match ds, hd with
  | [d1], _ => exact ⟨rfl, rfl, rfl⟩⟩
set_option maxRecDepth 100000 in
theorem walk : LawWalkR 6 Tryd.f6.params.toList Rows.layoutWritesUptoRow.laid fun _ ds => Rows.uptoBulkAll ds ≤ 1048576 := by
  intro H enc W base args ds before hval hA hlt hsz hL hM hbulk
  rw [Tryd.params6] at hA hval
  obtain ⟨v0, vs0, d0, ds0, p0, q0, hargs, rfl, rfl, h0, r0⟩ := trodAll_cons hA
  obtain ⟨rfl, rfl, rfl⟩ := trodAll_nil r0
  obtain rfl : args = #[v0] := by cases args; simp_all
  simp only [Rows.uptoBulkAll] at hbulk
  obtain ⟨lv0, tl0, ps0, rfl, hp0, _, _zb0⟩ := open_doc (hval 0 40 v0 rfl rfl) h0
  exact law_writes W _ _ ps0 hp0 hM (forms_of_laid hL) (by omega)
theorem laid_met (os : Os) : laidMet Tryd.prog Rows.layoutWritesUptoRow.laid ((formsWorld os).forCall (fun _ _ => 0) ⟨#[], #[.agg #[.slice none 0 0, .string ByteArray.empty]], []⟩).memory :=
  laidMet_of_run' 8 (by kernel_rfl) (by kernel_rfl)
theorem reads (os : Os) {H : Type} (enc : TypeId × Value → H) : ∃ places, DataW.whole enc Tryd.prog ((formsWorld os).forCall (fun _ _ => 0) ⟨#[], #[.agg #[.slice none 0 0, .string ByteArray.empty]], []⟩).memory Tryd.f6.params.toList Rows.layoutWritesSpec.vars false #[Value.agg #[.slice none 0 0, .string ByteArray.empty]].toList 8 = some ([.agg [.nil, .lit (.string [])]], [], places) :=
  ⟨[], by kernel_rfl⟩
set_option maxRecDepth 100000 in
theorem lifted (os : Os) (started : os.Started) (H : Type) (enc : TypeId × Value → H) (I : Stop.Interp) :
    ReturnsInHanded {} Tryd.checked os 6 .any ((Rows.OpenSpec.upto Rows.layoutWritesSpec).preRow enc Tryd.prog Tryd.f6 Rows.layoutWritesUptoRow.domain false Rows.layoutWritesUptoRow.laid) (((Rows.OpenSpec.upto Rows.layoutWritesSpec).at I).post enc Tryd.prog Tryd.f6 false true false false) := by
  obtain ⟨places, hx⟩ := reads os enc
  exact law_row started I (by kernel_rfl) Tryd.func6 isLaw rfl rfl (by rw [Tryd.params6]; intro t ht; simp at ht; rcases ht with rfl <;> exact ⟨by kernel_rfl, of_decide_eq_true (by kernel_rfl)⟩)
    rfl (by simp [DataSpec.varTypes, ChangeSpec.plain, Rows.OpenSpec.upto, OpenSpec.bare, OpenSpec.ofChange, isLaw.1]) rfl (ok := fun _ ds => Rows.uptoBulkAll ds ≤ 1048576) (fun ds hk => of_decide_eq_true (hk _ rfl))
    (witness_row_at (enc := enc) (C := Tryd.checked) false (formsWorld os) #[.agg #[.slice none 0 0, .string ByteArray.empty]] rfl (by kernel_rfl) (by kernel_rfl) (by kernel_rfl)
      (OpenSpec.preRow_of_cond 8 hx (by kernel_rfl) (fun k hk => by cases hk; kernel_rfl) (by kernel_rfl) (laid_met os))) walk
theorem said : Rows.LayoutWritesUptoSaid :=
  OpenClaim.holds_of_cond 6 Tryd.f6 rfl rfl rfl rfl rfl rfl rfl ⟨rfl, rfl, rfl, rfl, rfl⟩ rfl rfl rfl rfl rfl (by kernel_rfl) Tryd.func6 (by kernel_rfl)
    (of_decide_eq_true (by kernel_rfl)) (by unfold Func.isWrapper; first | (rw [if_pos (by decide +kernel)]; kernel_rfl) | (rw [if_neg (by decide +kernel)]; exact ⟨rfl, rfl⟩))
    (fun os started H enc _ I => by rw [OpenClaim.pre_eq_preRow]; exact lifted os started H enc I)
theorem plain (f : FuncId) (fn : Func) (hf : Tryd.pinned.checked.prog.funcNamed "apodixis/apodixislaw03.LayoutWrites" = some f) (hfn : Tryd.pinned.checked.prog.funcs[f]? = some fn) :
    false = Tryd.pinned.checked.prog.looks [] ∧ ∀ (j : Nat) t, fn.params[j]? = some t → Tryd.pinned.checked.prog.wantsStandIn t = false := by
  obtain rfl : f = 6 := Option.some.inj ((show Tryd.prog.funcNamed "apodixis/apodixislaw03.LayoutWrites" = some 6 by kernel_rfl).symm.trans hf) |>.symm
  obtain rfl : fn = Tryd.f6 := (Option.some.inj (Tryd.func6.symm.trans hfn)).symm
  refine ⟨by kernel_rfl, fun j t ht => ?_⟩
  rw [Tryd.params6] at ht
  have hm : t ∈ [40] := by simpa using Array.mem_of_getElem? ht
  have hall : ([40].all fun u => !Tryd.prog.wantsStandIn u) = true := by kernel_rfl
  exact (show Tryd.prog.wantsStandIn t = false by simpa using List.all_eq_true.1 hall t hm)
/-- the statement -/
theorem proved : Rows.LayoutWritesUptoCardSaid :=
  Claim7.holds_tied_plain_at .later [] _ _ _ _ said (fun _ h => by cases h) (by kernel_rfl) (fun _ h => by cases h) layoutWritesUpto_row_tie rfl ⟨rfl, rfl⟩ (by kernel_rfl) rfl plain (by kernel_rfl)
#print axioms proved
end layoutWrites
end Go.Proofs.YtpmbfcogkoiogaaDoor
