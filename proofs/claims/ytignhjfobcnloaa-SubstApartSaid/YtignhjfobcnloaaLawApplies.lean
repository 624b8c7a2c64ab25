/- SubstApplies: Check, Apply, Limited and Fits of any formulas and bindings are the reference's. -/
import Derived.Test.YtignhjfobcnloaaSubAwake
import Derived.Test.YtignhjfobcnloaaSubCheck
import Derived.Test.YtignhjfobcnloaaSubOpen
import Derived.Test.YtignhjfobcnloaaSubIter
import Derived.Test.YtignhjfobcnloaaLaw
namespace Go.Proofs.Ytignhjfobcnloaa
open Go.RowKit
theorem image_len {l : List BindD} {m : Nat} (h : ∀ x ∈ l, x.2.length ≤ m) (hm : 1 ≤ m) (s : List UInt8) : (imageS l s).length ≤ m := by
  rcases image_mem l s with e | ⟨x, hx, e⟩
  · rw [e]; simpa using hm
  · rw [e]; exact h x hx
theorem apply_len {l : List BindD} {m : Nat} (h : ∀ x ∈ l, x.2.length ≤ m) (hm : 1 ≤ m) : ∀ (t : Form), (applyS t l).length ≤ t.length * m := by
  intro t
  induction t with
  | nil => simp [applyS]
  | cons s t ih =>
    rw [applyS_cons, List.length_append, List.length_cons, Nat.add_mul]
    have := image_len h hm s
    omega
theorem limited_as (w : World) (lv tv : Value) (l : List BindD) (text : Form) (most : Int) (L : Form) (z : Int) (h : limitedS text l most = (L, z)) (hl : BindAt w lv l) (ht : Strs w tv text) (hsl : ∀ x ∈ l, x.1.length ≤ maxLen) (hsz : ∀ s ∈ text, s.length ≤ maxLen) (hL : l.length ≤ 1000000) (hA : (applyS text l).length ≤ 1000000000) (hmx : most ≤ 9223372036854775807) :
    Calls Try.prog 60 #[tv, lv, .int .i64 most] w fun e w' => ∃ v, e = .returned (.tuple #[v, .int .i64 z]) ∧ Strs w' v L ∧ Below w.heap.size w w' := by
  have := limited_any w lv tv l text most hl ht hsl hsz hL hA hmx
  rwa [h] at this
end Go.Proofs.Ytignhjfobcnloaa
