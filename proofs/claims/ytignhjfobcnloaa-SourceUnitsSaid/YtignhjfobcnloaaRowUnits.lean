/- SourceUnits: the statement: Texts and Locate of any unit return the results of the reference, or its error. -/
import Derived.Test.YtignhjfobcnloaaLawUnits
import Derived.Test.YtignhjfobcnloaaWordsOpen
import Derived.Test.YtignhjfobcnloaaLawShaped
namespace Go.Proofs.Ytignhjfobcnloaa
open Go.ChangeShapes Go.WideShapes Go.ChangeAt Go.RowKit Go.Joins
open Go.ChangeMaps (open_string)
namespace sourceUnits
theorem isLaw : IsLaw Rows.sourceUnitsSpec 3 := ⟨rfl, fun H ds hd => by
  match ds, hd with
  | [d1, d2, d3], _ => exact ⟨rfl, rfl, rfl⟩⟩
end sourceUnits
end Go.Proofs.Ytignhjfobcnloaa
