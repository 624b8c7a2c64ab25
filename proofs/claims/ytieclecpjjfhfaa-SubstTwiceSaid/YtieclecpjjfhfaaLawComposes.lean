/- SubstComposes: Compose of any bindings is the reference's. -/
import Derived.Test.YtieclecpjjfhfaaSubCompose
import Derived.Test.YtieclecpjjfhfaaRefCompose
import Derived.Test.YtieclecpjjfhfaaBindEq
import Derived.Test.YtieclecpjjfhfaaLawSwaps
namespace Go.Proofs.Ytieclecpjjfhfaa
open Go.RowKit
theorem compose_as (w : World) (av bv : Value) (a b : List BindD) (L : List BindD) (z : Int) (h : composeS a b = (L, z)) (ha : BindAt w av a) (hb : BindAt w bv b) (hsa : ∀ x ∈ a, x.1.length ≤ maxLen ∧ ∀ s ∈ x.2, s.length ≤ maxLen) (hsb : ∀ x ∈ b, x.1.length ≤ maxLen ∧ ∀ s ∈ x.2, s.length ≤ maxLen) :
    Calls Try.prog 76 #[av, bv] w fun e w' => ∃ v, e = .returned (.tuple #[v, .int .i64 z]) ∧ BindAt w' v L ∧ Below w.heap.size w w' := by
  have := compose_any w av bv a b ha hb hsa hsb
  rwa [h] at this
theorem ref_compose_as (w : World) (av bv : Value) (a b : List BindD) (L : List BindD) (z : Int) (h : composeS a b = (L, z)) (ha : BindAt w av a) (hb : BindAt w bv b) :
    Calls Try.prog 77 #[av, bv] w fun e w' => ∃ v, e = .returned (.tuple #[v, .int .i64 z]) ∧ BindAt w' v L ∧ Below w.heap.size w w' := by
  have := ref_compose w av bv a b ha hb
  rwa [h] at this
set_option maxRecDepth 100000 in
set_option maxHeartbeats 4000000 in
theorem law_composes (w : World) (av bv : Value) (a b : List BindD) (ha : BindAt w av a) (hb : BindAt w bv b) (hsa : ∀ x ∈ a, x.1.length ≤ maxLen ∧ ∀ s ∈ x.2, s.length ≤ maxLen) (hsb : ∀ x ∈ b, x.1.length ≤ maxLen ∧ ∀ s ∈ x.2, s.length ≤ maxLen) :
    Calls Try.prog 14 #[av, bv] w fun e w' => e = .returned (.bool true) ∧ Below w.heap.size w w' := by
  have HA := Lib.hid ha
  have HB := Lib.hid hb
  obtain ⟨aA, ac, rfl, _⟩ := ha
  obtain ⟨bA, bc, rfl, _⟩ := hb
  have HW := Lib.hid (Below.refl w.heap.size w)
  by_cases hfa : FewS a 60 4000
  · have e1 : decide (FewS a 60 4000) = true := decide_eq_true hfa
    clear hfa
    by_cases hfb : FewS b 60 4000
    · have e2 : decide (FewS b 60 4000) = true := decide_eq_true hfb
      obtain ⟨⟨L, z⟩, hLz⟩ : ∃ r, composeS a b = r := ⟨_, rfl⟩
      have HLZ := Lib.hid hLz
      clear hfb hLz
      go_enter Try.func14, Try.ntmps14
      go_wp2_with (first
        | (go_at_call 53; (first
          | ((with_reducible refine (few_any _ _ a 60 4000 (HA.out.below HW.out)).mono ?_); rintro e w1 ⟨rfl, hb⟩; have HW := Lib.hid (then_ HW.out hb); clear hb)
          | ((with_reducible refine (few_any _ _ b 60 4000 (HB.out.below HW.out)).mono ?_); rintro e w2 ⟨rfl, hb⟩; have HW := Lib.hid (then_ HW.out hb); clear hb)))
        | (go_at_call 76; (refine (compose_as _ _ _ a b L z HLZ.out (HA.out.below HW.out) (HB.out.below HW.out) hsa hsb).mono ?_; rintro e w3 ⟨v3, rfl, hv, hb⟩; have HW := Lib.hid (then_ HW.out hb); have HX := Lib.hid hv; clear hv hb))
        | (go_at_call 77; (refine (ref_compose_as _ _ _ a b L z HLZ.out (HA.out.below HW.out) (HB.out.below HW.out)).mono ?_; rintro e w4 ⟨v4, rfl, hv, hb⟩; have HW := Lib.hid (then_ HW.out hb); have HX := Lib.hid (HX.out.below hb); have HY := Lib.hid hv; clear hv hb))
        | (go_at_call 78; (refine (equalFunc_binds _ _ _ L HX.out HY.out).mono ?_; rintro e w5 ⟨rfl, hb⟩; have HW := Lib.hid (then_ HW.out hb); clear hb))
        | (go_at_call 54; (refine (awake06 _).mono ?_; rintro e w6 ⟨rfl, hb⟩; have HW := Lib.hid (then_ HW.out hb); clear hb)))
      go_ret
      exact ⟨rfl, HW.out⟩
    · have e2 : decide (FewS b 60 4000) = false := decide_eq_false hfb
      clear hfb
      go_enter Try.func14, Try.ntmps14
      go_wp2_with (first
        | (go_at_call 53; (first
          | ((with_reducible refine (few_any _ _ a 60 4000 (HA.out.below HW.out)).mono ?_); rintro e w1 ⟨rfl, hb⟩; have HW := Lib.hid (then_ HW.out hb); clear hb)
          | ((with_reducible refine (few_any _ _ b 60 4000 (HB.out.below HW.out)).mono ?_); rintro e w2 ⟨rfl, hb⟩; have HW := Lib.hid (then_ HW.out hb); clear hb)))
        | (go_at_call 54; (refine (awake06 _).mono ?_; rintro e w6 ⟨rfl, hb⟩; have HW := Lib.hid (then_ HW.out hb); clear hb)))
      go_ret
      exact ⟨rfl, HW.out⟩
  · have e1 : decide (FewS a 60 4000) = false := decide_eq_false hfa
    clear hfa
    go_enter Try.func14, Try.ntmps14
    go_wp2_with (first
      | (go_at_call 53; (refine (few_any _ _ a 60 4000 (HA.out.below HW.out)).mono ?_; rintro e w1 ⟨rfl, hb⟩; have HW := Lib.hid (then_ HW.out hb); clear hb))
      | (go_at_call 54; (refine (awake06 _).mono ?_; rintro e w6 ⟨rfl, hb⟩; have HW := Lib.hid (then_ HW.out hb); clear hb)))
    go_ret
    exact ⟨rfl, HW.out⟩
end Go.Proofs.Ytieclecpjjfhfaa
