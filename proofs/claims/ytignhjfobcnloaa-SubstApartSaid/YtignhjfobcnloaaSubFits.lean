/- Fits of the program and of the reference. -/
import Derived.Test.YtignhjfobcnloaaSubLim
namespace Go.Proofs.Ytignhjfobcnloaa
open Go.RowKit
theorem strs_zero (w : World) (A : Option Addr) (c : Nat) : Strs w (.slice A 0 c) [] := ⟨A, c, rfl, Nat.zero_le _, Nat.zero_le _, by simp, fun h => absurd h (by simp)⟩
end Go.Proofs.Ytignhjfobcnloaa
