/- SourceStrips: Strip of any text returns what the reference returns. -/
import Derived.Test.YthkeggmloajapaaStripA
import Derived.Test.YthkeggmloajapaaScanRA
namespace Go.Proofs.Ythkeggmloajapaa
open Go.ChangeShapes Go.WideShapes Go.ChangeAt Go.RowKit
open Go.ChangeMaps (open_string shut_string)
theorem toks_ex : toks 0 [97, 32, 36, 40, 32, 98, 32, 36, 41, 32, 99] = [([97], 0), ([36, 40], 2), ([98], 5), ([36, 41], 7), ([99], 10)] := by
  have s32 : sp 32 = true := by decide
  have n97 : sp 97 = false := by decide
  have n36 : sp 36 = false := by decide
  have n40 : sp 40 = false := by decide
  have n41 : sp 41 = false := by decide
  have n98 : sp 98 = false := by decide
  have n99 : sp 99 = false := by decide
  simp [toks, s32, n97, n36, n40, n41, n98, n99]
theorem strip_ex : stripS [97, 32, 36, 40, 32, 98, 32, 36, 41, 32, 99] = ([([97], 0), ([99], 10)], [([32, 98, 32], 2, 1)], 0, 0) := by
  have h : scanS [97, 32, 36, 40, 32, 98, 32, 36, 41, 32, 99] = ([([97], 0), ([36, 40], 2), ([98], 5), ([36, 41], 7), ([99], 10)], 0, 0) := by
    unfold scanS
    rw [toks_ex]
    decide
  unfold stripS
  rw [h]
  decide
set_option maxRecDepth 100000 in
theorem awake02 (w : World) (hM : MaxAt w) : Calls Try.prog 4 #[] w fun e w' => e = .returned (.bool true) ∧ Below w.heap.size w w' := by
  go_enter Try.func4, Try.ntmps4
  go_wp2_with (go_at_call 9; (refine (strip_any _ [97, 32, 36, 40, 32, 98, 32, 36, 41, 32, 99] hM).mono ?_; simp only [strip_ex]; rintro e w1 ⟨v1, v2, rfl, hv1, hv2, hb1⟩; obtain ⟨A1, c1, rfl, hc1, _, hx1⟩ := hv1.open_; obtain ⟨A2, c2, rfl, hc2, _, hx2⟩ := hv2.open_; obtain ⟨b1, o1, rfl, s1, s2⟩ := hx1 1 _ rfl; obtain ⟨b2, o2, rfl, r1, r2, r3, r4⟩ := hx2 0 _ rfl; clear hx1 hx2 hv1 hv2; simp only [Nat.zero_mul, Nat.one_mul, Nat.add_zero] at s1 s2 r1 r2 r3 r4; simp only [List.length_cons, List.length_nil, Nat.zero_add, Nat.reduceAdd] at hc1 hc2 ⊢))
  go_ret
  exact ⟨rfl, hb1⟩
namespace sourceStrips
end sourceStrips
end Go.Proofs.Ythkeggmloajapaa
