/- Arguments opened: slices of hypotheses. -/
import Derived.Test.YtpmbfcogkoiogaaDoorOpens
import Derived.Test.YtpmbfcogkoiogaaDoorRight
import Derived.Test.YtpmbfcogkoiogaaDoorMand
namespace Go.Proofs.YtpmbfcogkoiogaaDoor
open Go.ChangeShapes Go.WideShapes Go.Deep Go.Joins
section
variable {H : Type} {enc : TypeId × Value → H} {w : World} {base : Nat} {spare : Nat → Bool} {held : Bool}
end
end Go.Proofs.YtpmbfcogkoiogaaDoor
