/-
  DERIVED. GIVEN WITH THE SEED: THE CARDS: each row of YtpmbfcogkoiogaaDoorRows.lean that lists a variable, with what it lists TIED to the program's text (the seventh form; the later family's looks); each row that meets fmt, with fmt's text TOLD by the authors' own Lean function (tested against real Go, not proved from fmt's source: count such statements apart). THE CARD IS WHAT COUNTS. Prove the row's statement (the work); the ties are given (YtpmbfcogkoiogaaDoorTie.lean); close each card by the builder's one call (the guide's Derived/Test/ToyasCard.lean, 'card_holds'). Laid BY PROGRAM, IN A SANDBOX (cutbox-door.mjs). By AI agents, Wed Nov 11 2026. No macro, syntax, notation, axiom, sorry.
-/
import Derived.Test.YtpmbfcogkoiogaaDoorRows
import GoSem.ClaimSeven
namespace Go.Proofs.YtpmbfcogkoiogaaDoor
namespace Rows

/-- THE TIED CARD OF 'apodixislaw03.LayoutParses'. -/
def layoutParsesCard : Claim7 := { stood := { row := layoutParsesRow, standIns := [], harness := (true, "d5eb87eddde4ca39cd607e869373e63e7a31c40c8db7f506426061ae7c6c7b46"), looks := false }, kinds := [], alts := [], laidByText := true, laidKinds := [.widerDeep], laidTests := true, laidLooks := .later }
def LayoutParsesCardSaid : Prop := Claim7.holds Tryd.pinned (.plain (OpenSpec.ofChange layoutParsesSpec)) layoutParsesCard

/-- THE TIED CARD OF 'apodixislaw03.LayoutReads'. -/
def layoutReadsCard : Claim7 := { stood := { row := layoutReadsRow, standIns := [], harness := (true, "d5eb87eddde4ca39cd607e869373e63e7a31c40c8db7f506426061ae7c6c7b46"), looks := false }, kinds := [], alts := [], laidByText := true, laidKinds := [.widerDeep], laidTests := true, laidLooks := .later }
def LayoutReadsCardSaid : Prop := Claim7.holds Tryd.pinned (.plain (OpenSpec.ofChange layoutReadsSpec)) layoutReadsCard

/-- THE TIED CARD OF 'apodixislaw03.LayoutLines'. -/
def layoutLinesCard : Claim7 := { stood := { row := layoutLinesRow, standIns := [], harness := (true, "d5eb87eddde4ca39cd607e869373e63e7a31c40c8db7f506426061ae7c6c7b46"), looks := false }, kinds := [], alts := [], laidByText := true, laidKinds := [.listed, .data, .widerDeep], laidTests := true, laidLooks := .later }
def LayoutLinesCardSaid : Prop := Claim7.holds Tryd.pinned (.plain (OpenSpec.ofChange layoutLinesSpec)) layoutLinesCard

/-- THE TIED CARD OF 'apodixislaw03.LayoutWrites'. -/
def layoutWritesCard : Claim7 := { stood := { row := layoutWritesRow, standIns := [], harness := (true, "d5eb87eddde4ca39cd607e869373e63e7a31c40c8db7f506426061ae7c6c7b46"), looks := false }, kinds := [], alts := [], laidByText := true, laidKinds := [.widerDeep], laidTests := true, laidLooks := .later }
def LayoutWritesCardSaid : Prop := Claim7.holds Tryd.pinned (.plain (OpenSpec.ofChange layoutWritesSpec)) layoutWritesCard

/-- THE TIED CARD OF 'apodixislaw03.LayoutBack'. -/
def layoutBackCard : Claim7 := { stood := { row := layoutBackRow, standIns := [], harness := (true, "d5eb87eddde4ca39cd607e869373e63e7a31c40c8db7f506426061ae7c6c7b46"), looks := false }, kinds := [], alts := [], laidByText := true, laidKinds := [.widerDeep], laidTests := true, laidLooks := .later }
def LayoutBackCardSaid : Prop := Claim7.holds Tryd.pinned (.plain (OpenSpec.ofChange layoutBackSpec)) layoutBackCard

/-- THE TIED CARD OF 'apodixislaw03.LayoutRewraps'. -/
def layoutRewrapsCard : Claim7 := { stood := { row := layoutRewrapsRow, standIns := [], harness := (true, "d5eb87eddde4ca39cd607e869373e63e7a31c40c8db7f506426061ae7c6c7b46"), looks := false }, kinds := [], alts := [], laidByText := true, laidKinds := [.widerDeep], laidTests := true, laidLooks := .later }
def LayoutRewrapsCardSaid : Prop := Claim7.holds Tryd.pinned (.plain (OpenSpec.ofChange layoutRewrapsSpec)) layoutRewrapsCard

/-- THE SECOND FORM's CARD OF 'apodixislaw03.LayoutParses'. -/
def layoutParsesUptoCard : Claim7 := { stood := { row := layoutParsesUptoRow, standIns := [], harness := (true, "d5eb87eddde4ca39cd607e869373e63e7a31c40c8db7f506426061ae7c6c7b46"), looks := false }, kinds := [], alts := [], laidByText := true, laidKinds := [.widerDeep], laidTests := true, laidLooks := .later }
def LayoutParsesUptoCardSaid : Prop := Claim7.holds Tryd.pinned (.plain (OpenSpec.upto layoutParsesSpec)) layoutParsesUptoCard

/-- THE SECOND FORM's CARD OF 'apodixislaw03.LayoutReads'. -/
def layoutReadsUptoCard : Claim7 := { stood := { row := layoutReadsUptoRow, standIns := [], harness := (true, "d5eb87eddde4ca39cd607e869373e63e7a31c40c8db7f506426061ae7c6c7b46"), looks := false }, kinds := [], alts := [], laidByText := true, laidKinds := [.widerDeep], laidTests := true, laidLooks := .later }
def LayoutReadsUptoCardSaid : Prop := Claim7.holds Tryd.pinned (.plain (OpenSpec.upto layoutReadsSpec)) layoutReadsUptoCard

/-- THE SECOND FORM's CARD OF 'apodixislaw03.LayoutLines'. -/
def layoutLinesUptoCard : Claim7 := { stood := { row := layoutLinesUptoRow, standIns := [], harness := (true, "d5eb87eddde4ca39cd607e869373e63e7a31c40c8db7f506426061ae7c6c7b46"), looks := false }, kinds := [], alts := [], laidByText := true, laidKinds := [.listed, .data, .widerDeep], laidTests := true, laidLooks := .later }
def LayoutLinesUptoCardSaid : Prop := Claim7.holds Tryd.pinned (.plain (OpenSpec.upto layoutLinesSpec)) layoutLinesUptoCard

/-- THE SECOND FORM's CARD OF 'apodixislaw03.LayoutWrites'. -/
def layoutWritesUptoCard : Claim7 := { stood := { row := layoutWritesUptoRow, standIns := [], harness := (true, "d5eb87eddde4ca39cd607e869373e63e7a31c40c8db7f506426061ae7c6c7b46"), looks := false }, kinds := [], alts := [], laidByText := true, laidKinds := [.widerDeep], laidTests := true, laidLooks := .later }
def LayoutWritesUptoCardSaid : Prop := Claim7.holds Tryd.pinned (.plain (OpenSpec.upto layoutWritesSpec)) layoutWritesUptoCard

/-- THE SECOND FORM's CARD OF 'apodixislaw03.LayoutBack'. -/
def layoutBackUptoCard : Claim7 := { stood := { row := layoutBackUptoRow, standIns := [], harness := (true, "d5eb87eddde4ca39cd607e869373e63e7a31c40c8db7f506426061ae7c6c7b46"), looks := false }, kinds := [], alts := [], laidByText := true, laidKinds := [.widerDeep], laidTests := true, laidLooks := .later }
def LayoutBackUptoCardSaid : Prop := Claim7.holds Tryd.pinned (.plain (OpenSpec.upto layoutBackSpec)) layoutBackUptoCard

/-- THE SECOND FORM's CARD OF 'apodixislaw03.LayoutRewraps'. -/
def layoutRewrapsUptoCard : Claim7 := { stood := { row := layoutRewrapsUptoRow, standIns := [], harness := (true, "d5eb87eddde4ca39cd607e869373e63e7a31c40c8db7f506426061ae7c6c7b46"), looks := false }, kinds := [], alts := [], laidByText := true, laidKinds := [.widerDeep], laidTests := true, laidLooks := .later }
def LayoutRewrapsUptoCardSaid : Prop := Claim7.holds Tryd.pinned (.plain (OpenSpec.upto layoutRewrapsSpec)) layoutRewrapsUptoCard
end Rows
end Go.Proofs.YtpmbfcogkoiogaaDoor
