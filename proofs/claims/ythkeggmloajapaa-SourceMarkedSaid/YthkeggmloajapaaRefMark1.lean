/- The reference's citation, and whether a text has one of some bytes. -/
import Derived.Test.YthkeggmloajapaaMarkPlain3
import Derived.Test.YthkeggmloajapaaScanRA
import Derived.Test.YthkeggmloajapaaMarkCite
import Derived.RegionTactic
namespace Go.Proofs.Ythkeggmloajapaa
open Go.RowKit
def withinP (sb : Bool) (bs : List UInt8) (b : UInt8) : Bool := (sb && sp b) || bs.any fun c => b == c
end Go.Proofs.Ythkeggmloajapaa
