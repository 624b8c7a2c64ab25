/- LayoutParses: the second statement's card (arguments of together at most 1048576 values and letters; layout.forms as the program's text lays it). -/
import Derived.Test.YtpmbfcogkoiogaaDoorLawParses
import Derived.Test.YtpmbfcogkoiogaaDoorLawRow
import Derived.Test.YtpmbfcogkoiogaaDoorFormsLaid
import Derived.Test.YtpmbfcogkoiogaaDoorCards
import Derived.Test.YtpmbfcogkoiogaaDoorTie
import Derived.SevenTiedAt
namespace Go.Proofs.YtpmbfcogkoiogaaDoor
open Go.ChangeShapes Go.WideShapes Go.ChangeAt Go.RowKit Go.Joins
/-- a world for the witness: the settled one, layout.forms holding what its initialiser lays -/
noncomputable def formsWorld (os : Os) : World :=
  { World.holding Tryd.prog os ⟨#[], #[], []⟩ with heap := (World.holding Tryd.prog os ⟨#[], #[], []⟩).heap.modify 1 fun
      | .cells _ t frozen => .cells #[.string ⟨#[]⟩, .bool false, .int .i64 0, .int .i64 0, .string ⟨#[36, 99]⟩, .bool false, .int .i64 1, .int .i64 200, .string ⟨#[36, 118]⟩, .bool false, .int .i64 1, .int .i64 200, .string ⟨#[36, 102]⟩, .bool true, .int .i64 2, .int .i64 2, .string ⟨#[36, 101]⟩, .bool true, .int .i64 1, .int .i64 200, .string ⟨#[36, 100]⟩, .bool false, .int .i64 1, .int .i64 200, .string ⟨#[36, 97]⟩, .bool true, .int .i64 1, .int .i64 200, .string ⟨#[36, 112]⟩, .bool true, .int .i64 1, .int .i64 200, .string ⟨#[36, 123]⟩, .bool false, .int .i64 0, .int .i64 0, .string ⟨#[36, 125]⟩, .bool false, .int .i64 0, .int .i64 0] t frozen
      | o => o }
namespace layoutParses
theorem isLaw : IsLaw Rows.layoutParsesSpec 2 := ⟨rfl, fun H ds hd => by
  match ds, hd with
  | [d1, d2], _ => exact ⟨rfl, rfl, rfl⟩⟩
set_option maxRecDepth 100000 in
theorem walk : LawWalkR 3 Tryd.f3.params.toList Rows.layoutParsesUptoRow.laid fun _ ds => Rows.uptoBulkAll ds ≤ 1048576 := by
  intro H enc W base args ds before hval hA hlt hsz hL _ hbulk
  rw [Tryd.params3] at hA hval
  obtain ⟨v0, vs0, d0, ds0, p0, q0, hargs, rfl, rfl, h0, r0⟩ := trodAll_cons hA
  obtain ⟨v1, vs1, d1, ds1, p1, q1, rfl, rfl, rfl, h1, r1⟩ := trodAll_cons r0
  obtain ⟨rfl, rfl, rfl⟩ := trodAll_nil r1
  obtain rfl : args = #[v0, v1] := by cases args; simp_all
  obtain ⟨fuel, hf0⟩ := h0
  obtain ⟨pv, p, hpv, hp, hsp, hbp⟩ := strs_of_trod_b Tryd.underlying22 Tryd.underlying9 (by kernel_rfl) hf0
  obtain ⟨A0, n0, c0, rfl⟩ := okWide_slice Tryd.underlying22 (hval 0 22 v0 rfl rfl)
  obtain rfl : pv = .slice A0 n0 c0 := by simpa [Value.cells] using hpv.symm
  obtain ⟨fuel1, hf1⟩ := h1
  obtain ⟨mv, m, hmv, hm, hzm, hbm⟩ := stms_of_trod hf1
  obtain ⟨A1, n1, c1, rfl⟩ := okWide_slice Tryd.underlying23 (hval 1 23 v1 rfl rfl)
  obtain rfl : mv = .slice A1 n1 c1 := by simpa [Value.cells] using hmv.symm
  simp only [Rows.uptoBulkAll] at hbulk
  dsimp only at hbp hbm
  exact law_parses W _ _ p m hp hm (forms_of_laid hL) (by omega) (by omega) hsp (by omega) (by omega) (by omega) hzm
theorem laid_met (os : Os) : laidMet Tryd.prog Rows.layoutParsesUptoRow.laid ((formsWorld os).forCall (fun _ _ => 0) ⟨#[], #[.slice none 0 0, .slice none 0 0], []⟩).memory :=
  laidMet_of_run' 8 (by kernel_rfl) (by kernel_rfl)
theorem reads (os : Os) {H : Type} (enc : TypeId × Value → H) : ∃ places, DataW.whole enc Tryd.prog ((formsWorld os).forCall (fun _ _ => 0) ⟨#[], #[.slice none 0 0, .slice none 0 0], []⟩).memory Tryd.f3.params.toList Rows.layoutParsesSpec.vars false #[Value.slice none 0 0, .slice none 0 0].toList 8 = some ([.nil, .nil], [], places) :=
  ⟨[], by kernel_rfl⟩
set_option maxRecDepth 100000 in
theorem lifted (os : Os) (started : os.Started) (H : Type) (enc : TypeId × Value → H) (I : Stop.Interp) :
    ReturnsInHanded {} Tryd.checked os 3 .any ((Rows.OpenSpec.upto Rows.layoutParsesSpec).preRow enc Tryd.prog Tryd.f3 Rows.layoutParsesUptoRow.domain false Rows.layoutParsesUptoRow.laid) (((Rows.OpenSpec.upto Rows.layoutParsesSpec).at I).post enc Tryd.prog Tryd.f3 false true false false) := by
  obtain ⟨places, hx⟩ := reads os enc
  exact law_row started I (by kernel_rfl) Tryd.func3 isLaw rfl rfl (by rw [Tryd.params3]; intro t ht; simp at ht; rcases ht with rfl | rfl <;> exact ⟨by kernel_rfl, of_decide_eq_true (by kernel_rfl)⟩)
    rfl (by simp [DataSpec.varTypes, ChangeSpec.plain, Rows.OpenSpec.upto, OpenSpec.bare, OpenSpec.ofChange, isLaw.1]) rfl (ok := fun _ ds => Rows.uptoBulkAll ds ≤ 1048576) (fun ds hk => of_decide_eq_true (hk _ rfl))
    (witness_row_at (enc := enc) (C := Tryd.checked) false (formsWorld os) #[.slice none 0 0, .slice none 0 0] rfl (by kernel_rfl) (by kernel_rfl) (by kernel_rfl)
      (OpenSpec.preRow_of_cond 8 hx (by kernel_rfl) (fun k hk => by cases hk; kernel_rfl) (by kernel_rfl) (laid_met os))) walk
theorem said : Rows.LayoutParsesUptoSaid :=
  OpenClaim.holds_of_cond 3 Tryd.f3 rfl rfl rfl rfl rfl rfl rfl ⟨rfl, rfl, rfl, rfl, rfl⟩ rfl rfl rfl rfl rfl (by kernel_rfl) Tryd.func3 (by kernel_rfl)
    (of_decide_eq_true (by kernel_rfl)) (by unfold Func.isWrapper; first | (rw [if_pos (by decide +kernel)]; kernel_rfl) | (rw [if_neg (by decide +kernel)]; exact ⟨rfl, rfl⟩))
    (fun os started H enc _ I => by rw [OpenClaim.pre_eq_preRow]; exact lifted os started H enc I)
theorem plain (f : FuncId) (fn : Func) (hf : Tryd.pinned.checked.prog.funcNamed "apodixis/apodixislaw03.LayoutParses" = some f) (hfn : Tryd.pinned.checked.prog.funcs[f]? = some fn) :
    false = Tryd.pinned.checked.prog.looks [] ∧ ∀ (j : Nat) t, fn.params[j]? = some t → Tryd.pinned.checked.prog.wantsStandIn t = false := by
  obtain rfl : f = 3 := Option.some.inj ((show Tryd.prog.funcNamed "apodixis/apodixislaw03.LayoutParses" = some 3 by kernel_rfl).symm.trans hf) |>.symm
  obtain rfl : fn = Tryd.f3 := (Option.some.inj (Tryd.func3.symm.trans hfn)).symm
  refine ⟨by kernel_rfl, fun j t ht => ?_⟩
  rw [Tryd.params3] at ht
  have hm : t ∈ [22, 23] := by simpa using Array.mem_of_getElem? ht
  have hall : ([22, 23].all fun u => !Tryd.prog.wantsStandIn u) = true := by kernel_rfl
  exact (show Tryd.prog.wantsStandIn t = false by simpa using List.all_eq_true.1 hall t hm)
/-- the statement -/
theorem proved : Rows.LayoutParsesUptoCardSaid :=
  Claim7.holds_tied_plain_at .later [] _ _ _ _ said (fun _ h => by cases h) (by kernel_rfl) (fun _ h => by cases h) layoutParsesUpto_row_tie rfl ⟨rfl, rfl⟩ (by kernel_rfl) rfl plain (by kernel_rfl)
#print axioms proved
end layoutParses
end Go.Proofs.YtpmbfcogkoiogaaDoor
