/- LayoutBack: Write of Read is the text; Parse of Words are the statements, and Words of Parse the words (arguments of together at most 1048576 values and letters; layout.forms as the program's text lays it). -/
import Derived.Test.YtpmbfcogkoiogaaDoorLawBack
import Derived.Test.YtpmbfcogkoiogaaDoorRowA
import Derived.Test.YtpmbfcogkoiogaaDoorCards
import Derived.Test.YtpmbfcogkoiogaaDoorTie
import Derived.Test.YtpmbfcogkoiogaaDoorOpenStm
import Derived.SevenTiedAt
namespace Go.Proofs.YtpmbfcogkoiogaaDoor
open Go.ChangeShapes Go.WideShapes Go.ChangeAt Go.RowKit Go.Joins
open Go.ChangeMaps (open_string)
namespace layoutBack
theorem isLaw : IsLaw Rows.layoutBackSpec 3 := ⟨rfl, fun H ds hd => by
  match ds, hd with
  | [d1, d2, d3], _ => exact ⟨rfl, rfl, rfl⟩⟩
set_option maxRecDepth 100000 in
theorem walk : LawWalkR 7 Tryd.f7.params.toList Rows.layoutBackUptoRow.laid fun _ ds => Rows.uptoBulkAll ds ≤ 1048576 := by
  intro H enc W base args ds before hval hA hlt hsz hL hM hbulk
  rw [Tryd.params7] at hA hval
  obtain ⟨v0, vs0, d0, ds0, p0, q0, hargs, rfl, rfl, h0, r0⟩ := trodAll_cons hA
  obtain ⟨v1, vs1, d1, ds1, p1, q1, rfl, rfl, rfl, h1, r1⟩ := trodAll_cons r0
  obtain ⟨v2, vs2, d2, ds2, p2, q2, rfl, rfl, rfl, h2, r2⟩ := trodAll_cons r1
  obtain ⟨rfl, rfl, rfl⟩ := trodAll_nil r2
  obtain rfl : args = #[v0, v1, v2] := by cases args; simp_all
  simp only [Rows.uptoBulkAll] at hbulk
  obtain ⟨a0, rfl, rfl, rfl, w0⟩ := open_string Tryd.underlying9 (hval 0 9 v0 rfl rfl) h0
  obtain ⟨fuel1, hf1⟩ := h1
  obtain ⟨pv1, x1, hpv1, hp1, zs1, zb1⟩ := strs_of_trod_b Tryd.underlying22 Tryd.underlying9 (by kernel_rfl) hf1
  obtain ⟨A1, n1, c1, rfl⟩ := okWide_slice Tryd.underlying22 (hval 1 22 v1 rfl rfl)
  obtain rfl : pv1 = .slice A1 n1 c1 := by simpa [Value.cells] using hpv1.symm
  dsimp only at zb1
  obtain ⟨fuel2, hf2⟩ := h2
  obtain ⟨pv2, x2, hpv2, hp2, zs2, zb2⟩ := stms_of_trod hf2
  obtain ⟨A2, n2, c2, rfl⟩ := okWide_slice Tryd.underlying23 (hval 2 23 v2 rfl rfl)
  obtain rfl : pv2 = .slice A2 n2 c2 := by simpa [Value.cells] using hpv2.symm
  dsimp only at zb2
  exact law_back W _ _ _ x1 x2 hp1 hp2 hM (forms_of_laid hL) (by omega) (by omega) (by omega) (by omega) (by omega) zs2
theorem laid_met (os : Os) : laidMet Tryd.prog Rows.layoutBackUptoRow.laid ((formsWorld os).forCall (fun _ _ => 0) ⟨#[], #[.string ByteArray.empty, .slice none 0 0, .slice none 0 0], []⟩).memory :=
  laidMet_of_run' 8 (by kernel_rfl) (by kernel_rfl)
theorem reads (os : Os) {H : Type} (enc : TypeId × Value → H) : ∃ places, DataW.whole enc Tryd.prog ((formsWorld os).forCall (fun _ _ => 0) ⟨#[], #[.string ByteArray.empty, .slice none 0 0, .slice none 0 0], []⟩).memory Tryd.f7.params.toList Rows.layoutBackSpec.vars false #[Value.string ByteArray.empty, .slice none 0 0, .slice none 0 0].toList 8 = some ([.lit (.string []), .nil, .nil], [], places) :=
  ⟨[], by kernel_rfl⟩
set_option maxRecDepth 100000 in
theorem lifted (os : Os) (started : os.Started) (H : Type) (enc : TypeId × Value → H) (I : Stop.Interp) :
    ReturnsInHanded {} Tryd.checked os 7 .any ((Rows.OpenSpec.upto Rows.layoutBackSpec).preRow enc Tryd.prog Tryd.f7 Rows.layoutBackUptoRow.domain false Rows.layoutBackUptoRow.laid) (((Rows.OpenSpec.upto Rows.layoutBackSpec).at I).post enc Tryd.prog Tryd.f7 false true false false) := by
  obtain ⟨places, hx⟩ := reads os enc
  exact law_row started I (by kernel_rfl) Tryd.func7 isLaw rfl rfl (by rw [Tryd.params7]; intro t ht; simp at ht; rcases ht with rfl | rfl | rfl <;> exact ⟨by kernel_rfl, of_decide_eq_true (by kernel_rfl)⟩)
    rfl (by simp [DataSpec.varTypes, ChangeSpec.plain, Rows.OpenSpec.upto, OpenSpec.bare, OpenSpec.ofChange, isLaw.1]) rfl (ok := fun _ ds => Rows.uptoBulkAll ds ≤ 1048576) (fun ds hk => of_decide_eq_true (hk _ rfl))
    (witness_row_at (enc := enc) (C := Tryd.checked) false (formsWorld os) #[.string ByteArray.empty, .slice none 0 0, .slice none 0 0] rfl (by kernel_rfl) (by kernel_rfl) (by kernel_rfl)
      (OpenSpec.preRow_of_cond 8 hx (by kernel_rfl) (fun k hk => by cases hk; kernel_rfl) (by kernel_rfl) (laid_met os))) walk
theorem said : Rows.LayoutBackUptoSaid :=
  OpenClaim.holds_of_cond 7 Tryd.f7 rfl rfl rfl rfl rfl rfl rfl ⟨rfl, rfl, rfl, rfl, rfl⟩ rfl rfl rfl rfl rfl (by kernel_rfl) Tryd.func7 (by kernel_rfl)
    (of_decide_eq_true (by kernel_rfl)) (by unfold Func.isWrapper; first | (rw [if_pos (by decide +kernel)]; kernel_rfl) | (rw [if_neg (by decide +kernel)]; exact ⟨rfl, rfl⟩))
    (fun os started H enc _ I => by rw [OpenClaim.pre_eq_preRow]; exact lifted os started H enc I)
theorem plain (f : FuncId) (fn : Func) (hf : Tryd.pinned.checked.prog.funcNamed "apodixis/apodixislaw03.LayoutBack" = some f) (hfn : Tryd.pinned.checked.prog.funcs[f]? = some fn) :
    false = Tryd.pinned.checked.prog.looks [] ∧ ∀ (j : Nat) t, fn.params[j]? = some t → Tryd.pinned.checked.prog.wantsStandIn t = false := by
  obtain rfl : f = 7 := Option.some.inj ((show Tryd.prog.funcNamed "apodixis/apodixislaw03.LayoutBack" = some 7 by kernel_rfl).symm.trans hf) |>.symm
  obtain rfl : fn = Tryd.f7 := (Option.some.inj (Tryd.func7.symm.trans hfn)).symm
  refine ⟨by kernel_rfl, fun j t ht => ?_⟩
  rw [Tryd.params7] at ht
  have hm : t ∈ [9, 22, 23] := by simpa using Array.mem_of_getElem? ht
  have hall : ([9, 22, 23].all fun u => !Tryd.prog.wantsStandIn u) = true := by kernel_rfl
  exact (show Tryd.prog.wantsStandIn t = false by simpa using List.all_eq_true.1 hall t hm)
/-- the statement -/
theorem proved : Rows.LayoutBackUptoCardSaid :=
  Claim7.holds_tied_plain_at .later [] _ _ _ _ said (fun _ h => by cases h) (by kernel_rfl) (fun _ h => by cases h) layoutBackUpto_row_tie rfl ⟨rfl, rfl⟩ (by kernel_rfl) rfl plain (by kernel_rfl)
#print axioms proved
end layoutBack
end Go.Proofs.YtpmbfcogkoiogaaDoor
