/- SubstTwice: Apply by Compose equals both substitutions in turn; Compose is associative (printed by gen_twice.py). -/
import Derived.Test.YtieclecpjjfhfaaLawComposes
namespace Go.Proofs.Ytieclecpjjfhfaa
open Go.RowKit
theorem comp_sz {a b : List BindD} (ha : ∀ x ∈ a, x.1.length ≤ maxLen ∧ ∀ s ∈ x.2, s.length ≤ maxLen) (hb : ∀ x ∈ b, x.1.length ≤ maxLen ∧ ∀ s ∈ x.2, s.length ≤ maxLen) : ∀ x ∈ compS a b, x.1.length ≤ maxLen ∧ ∀ s ∈ x.2, s.length ≤ maxLen := by
  intro x hx
  rcases List.mem_append.1 (show x ∈ a.map _ ++ restS a b from hx) with hx | hx
  · obtain ⟨y, hy, rfl⟩ := List.mem_map.1 hx
    exact ⟨(ha y hy).1, apply_sz (fun z hz => (hb z hz).2) (ha y hy).2⟩
  · exact hb x (List.mem_filter.1 hx).1
set_option maxRecDepth 100000 in
set_option maxHeartbeats 8000000 in
theorem law_twice (w : World) (tv av bv cv : Value) (text : Form) (a b c : List BindD) (ht : Strs w tv text) (ha : BindAt w av a) (hb : BindAt w bv b) (hc : BindAt w cv c)
    (hst : ∀ s ∈ text, s.length ≤ maxLen) (hsa : ∀ x ∈ a, x.1.length ≤ maxLen ∧ ∀ s ∈ x.2, s.length ≤ maxLen) (hsb : ∀ x ∈ b, x.1.length ≤ maxLen ∧ ∀ s ∈ x.2, s.length ≤ maxLen) (hsc : ∀ x ∈ c, x.1.length ≤ maxLen ∧ ∀ s ∈ x.2, s.length ≤ maxLen) :
    Calls Try.prog 15 #[tv, av, bv, cv] w fun e w' => e = .returned (.bool true) ∧ Below w.heap.size w w' := by
  have htm : text.length ≤ maxLen := by obtain ⟨_, _, _, _, h, _⟩ := ht; exact h
  unfold maxLen at htm
  have HT := Lib.hid ht
  have HA := Lib.hid ha
  have HB := Lib.hid hb
  have HC := Lib.hid hc
  obtain ⟨tA, tc, rfl⟩ := ht.form
  obtain ⟨aA, ac, rfl, _⟩ := ha
  obtain ⟨bA, bc, rfl, _⟩ := hb
  obtain ⟨cA, cc, rfl, _⟩ := hc
  clear ht
  have HW := Lib.hid (Below.refl w.heap.size w)
  by_cases hfa : FewS a 20 20
  · have e1 : decide (FewS a 20 20) = true := decide_eq_true hfa
    by_cases hfb : FewS b 20 20
    · have e2 : decide (FewS b 20 20) = true := decide_eq_true hfb
      by_cases hfc : FewS c 20 20
      · have e3 : decide (FewS c 20 20) = true := decide_eq_true hfc
        by_cases ht4 : text.length ≤ 40
        · have e4 : decide ((40 : Int) < (text.length : Int)) = false := decide_eq_false (by omega)
          obtain ⟨⟨AB, z⟩, hLz⟩ : ∃ r, composeS a b = r := ⟨_, rfl⟩
          have HLZ := Lib.hid hLz
          by_cases hz : z = 0
          · subst hz
            obtain ⟨k1, k2, k3, k4, k5⟩ := composeS_ok (a := a) (b := b) (by rw [hLz])
            obtain rfl : AB = compS a b := by rw [hLz] at k5; exact (Prod.mk.inj k5).1
            have HAL : a.length ≤ 1000000 := by have := hfa.1; omega
            have HBL : b.length ≤ 1000000 := by have := hfb.1; omega
            have HCL : (compS a b).length ≤ 1000000 := by omega
            have HIA : ∀ t : Form, (applyS t a).length ≤ t.length * 20 := apply_len (fun x hx => by have := hfa.2 x hx; omega) (by decide)
            have HIB : ∀ t : Form, (applyS t b).length ≤ t.length * 20 := apply_len (fun x hx => by have := hfb.2 x hx; omega) (by decide)
            have H1 := Lib.hid (show (applyS text a).length ≤ 1000000000 by have := HIA text; omega)
            have H2 := Lib.hid (show (applyS (applyS text a) b).length ≤ 1000000000 by have := HIA text; have := HIB (applyS text a); omega)
            have HTA : Hid (applyS text (compS a b) = applyS (applyS text a) b) := Lib.hid (applyS_comp text a b)
            have HSZ : Hid (∀ s ∈ applyS text a, s.length ≤ maxLen) := Lib.hid (apply_sz (fun z hz => (hsa z hz).2) hst)
            have HSC := Lib.hid (comp_sz hsa hsb)
            obtain ⟨⟨L2, z2⟩, hLz2⟩ : ∃ r, composeS b c = r := ⟨_, rfl⟩
            obtain ⟨⟨L3, z3⟩, hLz3⟩ : ∃ r, composeS (compS a b) c = r := ⟨_, rfl⟩
            have HLZ2 := Lib.hid hLz2
            have HLZ3 := Lib.hid hLz3
            have HSA1 := Lib.hid (fun x hx => (hsa x hx).1)
            have HSB1 := Lib.hid (fun x hx => (hsb x hx).1)
            have HSC1 := Lib.hid (fun x hx => (HSC.out x hx).1)
            have HAC : Hid (z2 = 0 → z3 = 0 → composeS a L2 = (L3, 0) ∧ L2 = compS b c) := Lib.hid (by
              rintro rfl rfl
              obtain ⟨_, _, _, _, m5⟩ := composeS_ok (a := b) (b := c) (by rw [hLz2])
              obtain rfl : L2 = compS b c := by rw [hLz2] at m5; exact (Prod.mk.inj m5).1
              obtain ⟨_, _, _, _, n5⟩ := composeS_ok (a := compS a b) (b := c) (by rw [hLz3])
              obtain rfl : L3 = compS (compS a b) c := by rw [hLz3] at n5; exact (Prod.mk.inj n5).1
              exact ⟨composeS_assoc (by rw [hLz]) (by rw [hLz2]) (by rw [hLz3]), rfl⟩)
            clear k1 k2 k3 k4 k5 hfa hfb hfc HIA HIB hLz hLz2 hLz3 ht4
            generalize compS a b = AB at *
            by_cases hz2 : z2 = 0
            · subst hz2
              by_cases hz3 : z3 = 0
              · subst hz3
                have HACC := Lib.hid (HAC.out rfl rfl).1
                have HSBC : Hid (∀ x ∈ L2, x.1.length ≤ maxLen ∧ ∀ s ∈ x.2, s.length ≤ maxLen) := Lib.hid (by rw [(HAC.out rfl rfl).2]; exact comp_sz hsb hsc)
                clear HAC
                go_enter Try.func15, Try.ntmps15
                go_wp2_with (first
                  | (go_at_call 53; (first
                    | ((with_reducible refine (few_any _ _ a 20 20 (HA.out.below HW.out)).mono ?_); rintro e w1 ⟨rfl, hb⟩; have HW := Lib.hid (then_ HW.out hb); clear hb)
                    | ((with_reducible refine (few_any _ _ b 20 20 (HB.out.below HW.out)).mono ?_); rintro e w2 ⟨rfl, hb⟩; have HW := Lib.hid (then_ HW.out hb); clear hb)
                    | ((with_reducible refine (few_any _ _ c 20 20 (HC.out.below HW.out)).mono ?_); rintro e w2 ⟨rfl, hb⟩; have HW := Lib.hid (then_ HW.out hb); clear hb)))
                  | (go_at_call 76; (first
                    | ((with_reducible refine (compose_as _ _ _ a L2 L3 0 HACC.out (HA.out.below HW.out) HBC.out hsa HSBC.out).mono ?_); rintro e w3 ⟨v3, rfl, hv, hb⟩; have HW := Lib.hid (then_ HW.out hb); have HX := Lib.hid (HX.out.below hb); have HY := Lib.hid hv; clear hv hb)
                    | ((with_reducible refine (compose_as _ _ _ AB c L3 _ HLZ3.out HAB.out (HC.out.below HW.out) HSC.out hsc).mono ?_); rintro e w3 ⟨v3, rfl, hv, hb⟩; have HW := Lib.hid (then_ HW.out hb); have HAB := Lib.hid (HAB.out.below hb); have HBC := Lib.hid (HBC.out.below hb); have HX := Lib.hid hv; clear hv hb)
                    | ((with_reducible refine (compose_as _ _ _ b c L2 _ HLZ2.out (HB.out.below HW.out) (HC.out.below HW.out) hsb hsc).mono ?_); rintro e w3 ⟨v3, rfl, hv, hb⟩; have HW := Lib.hid (then_ HW.out hb); have HAB := Lib.hid (HAB.out.below hb); have HBC := Lib.hid hv; clear hv hb)
                    | ((with_reducible refine (compose_as _ _ _ a b AB _ HLZ.out (HA.out.below HW.out) (HB.out.below HW.out) hsa hsb).mono ?_); rintro e w3 ⟨v3, rfl, hv, hb⟩; have HW := Lib.hid (then_ HW.out hb); have HAB := Lib.hid hv; clear hv hb)))
                  | (go_at_call 56; (first
                    | ((with_reducible refine (apply_any _ _ _ b (applyS text a) (HB.out.below HW.out) HQ.out HSB1.out HSZ.out HBL H2.out).mono ?_); rintro e w4 ⟨v4, rfl, hv, hb⟩; have HW := Lib.hid (then_ HW.out hb); have HAB := Lib.hid (HAB.out.below hb); have HP := Lib.hid (HP.out.below hb); have HR := Lib.hid hv; clear hv hb)
                    | ((with_reducible refine (apply_any _ _ _ a text (HA.out.below HW.out) (HT.out.below HW.out) HSA1.out hst HAL H1.out).mono ?_); rintro e w4 ⟨v4, rfl, hv, hb⟩; have HW := Lib.hid (then_ HW.out hb); have HAB := Lib.hid (HAB.out.below hb); have HP := Lib.hid (HP.out.below hb); have HQ := Lib.hid hv; clear hv hb)
                    | ((with_reducible refine (apply_any _ _ _ AB text HAB.out (HT.out.below HW.out) HSC1.out hst HCL (by rw [HTA.out]; exact H2.out)).mono ?_); rintro e w4 ⟨v4, rfl, hv, hb⟩; have HW := Lib.hid (then_ HW.out hb); have HAB := Lib.hid (HAB.out.below hb); rw [HTA.out] at hv; have HP := Lib.hid hv; clear hv hb)))
                  | (go_at_call 31; (refine (equal_str_same _ _ _ _ HP.out HR.out).mono ?_; rintro e w5 ⟨rfl, hb⟩; have HW := Lib.hid (then_ HW.out hb); have HAB := Lib.hid (HAB.out.below hb); clear hb))
                  | (go_at_call 78; (refine (equalFunc_binds _ _ _ L3 HX.out HY.out).mono ?_; rintro e w5 ⟨rfl, hb⟩; have HW := Lib.hid (then_ HW.out hb); clear hb))
                  | (go_at_call 54; (refine (awake06 _).mono ?_; rintro e w6 ⟨rfl, hb⟩; have HW := Lib.hid (then_ HW.out hb); clear hb)))
                go_ret
                exact ⟨rfl, HW.out⟩
              · have t1 : (z3 != 0) = true := by simpa using hz3
                have t2 : (z3 == 0) = false := by simpa using hz3
                clear HAC hz3
                go_enter Try.func15, Try.ntmps15
                go_wp2_with (first
                  | (go_at_call 53; (first
                    | ((with_reducible refine (few_any _ _ a 20 20 (HA.out.below HW.out)).mono ?_); rintro e w1 ⟨rfl, hb⟩; have HW := Lib.hid (then_ HW.out hb); clear hb)
                    | ((with_reducible refine (few_any _ _ b 20 20 (HB.out.below HW.out)).mono ?_); rintro e w2 ⟨rfl, hb⟩; have HW := Lib.hid (then_ HW.out hb); clear hb)
                    | ((with_reducible refine (few_any _ _ c 20 20 (HC.out.below HW.out)).mono ?_); rintro e w2 ⟨rfl, hb⟩; have HW := Lib.hid (then_ HW.out hb); clear hb)))
                  | (go_at_call 76; (first
                    | ((with_reducible refine (compose_as _ _ _ a L2 L3 0 HACC.out (HA.out.below HW.out) HBC.out hsa HSBC.out).mono ?_); rintro e w3 ⟨v3, rfl, hv, hb⟩; have HW := Lib.hid (then_ HW.out hb); have HX := Lib.hid (HX.out.below hb); have HY := Lib.hid hv; clear hv hb)
                    | ((with_reducible refine (compose_as _ _ _ AB c L3 _ HLZ3.out HAB.out (HC.out.below HW.out) HSC.out hsc).mono ?_); rintro e w3 ⟨v3, rfl, hv, hb⟩; have HW := Lib.hid (then_ HW.out hb); have HAB := Lib.hid (HAB.out.below hb); have HBC := Lib.hid (HBC.out.below hb); have HX := Lib.hid hv; clear hv hb)
                    | ((with_reducible refine (compose_as _ _ _ b c L2 _ HLZ2.out (HB.out.below HW.out) (HC.out.below HW.out) hsb hsc).mono ?_); rintro e w3 ⟨v3, rfl, hv, hb⟩; have HW := Lib.hid (then_ HW.out hb); have HAB := Lib.hid (HAB.out.below hb); have HBC := Lib.hid hv; clear hv hb)
                    | ((with_reducible refine (compose_as _ _ _ a b AB _ HLZ.out (HA.out.below HW.out) (HB.out.below HW.out) hsa hsb).mono ?_); rintro e w3 ⟨v3, rfl, hv, hb⟩; have HW := Lib.hid (then_ HW.out hb); have HAB := Lib.hid hv; clear hv hb)))
                  | (go_at_call 56; (first
                    | ((with_reducible refine (apply_any _ _ _ b (applyS text a) (HB.out.below HW.out) HQ.out HSB1.out HSZ.out HBL H2.out).mono ?_); rintro e w4 ⟨v4, rfl, hv, hb⟩; have HW := Lib.hid (then_ HW.out hb); have HAB := Lib.hid (HAB.out.below hb); have HP := Lib.hid (HP.out.below hb); have HR := Lib.hid hv; clear hv hb)
                    | ((with_reducible refine (apply_any _ _ _ a text (HA.out.below HW.out) (HT.out.below HW.out) HSA1.out hst HAL H1.out).mono ?_); rintro e w4 ⟨v4, rfl, hv, hb⟩; have HW := Lib.hid (then_ HW.out hb); have HAB := Lib.hid (HAB.out.below hb); have HP := Lib.hid (HP.out.below hb); have HQ := Lib.hid hv; clear hv hb)
                    | ((with_reducible refine (apply_any _ _ _ AB text HAB.out (HT.out.below HW.out) HSC1.out hst HCL (by rw [HTA.out]; exact H2.out)).mono ?_); rintro e w4 ⟨v4, rfl, hv, hb⟩; have HW := Lib.hid (then_ HW.out hb); have HAB := Lib.hid (HAB.out.below hb); rw [HTA.out] at hv; have HP := Lib.hid hv; clear hv hb)))
                  | (go_at_call 31; (refine (equal_str_same _ _ _ _ HP.out HR.out).mono ?_; rintro e w5 ⟨rfl, hb⟩; have HW := Lib.hid (then_ HW.out hb); have HAB := Lib.hid (HAB.out.below hb); clear hb))
                  | (go_at_call 78; (refine (equalFunc_binds _ _ _ L3 HX.out HY.out).mono ?_; rintro e w5 ⟨rfl, hb⟩; have HW := Lib.hid (then_ HW.out hb); clear hb))
                  | (go_at_call 54; (refine (awake06 _).mono ?_; rintro e w6 ⟨rfl, hb⟩; have HW := Lib.hid (then_ HW.out hb); clear hb)))
                go_ret
                exact ⟨rfl, HW.out⟩
            · have t1 : (z2 != 0) = true := by simpa using hz2
              have t2 : (z2 == 0) = false := by simpa using hz2
              clear HAC hz2
              go_enter Try.func15, Try.ntmps15
              go_wp2_with (first
                | (go_at_call 53; (first
                  | ((with_reducible refine (few_any _ _ a 20 20 (HA.out.below HW.out)).mono ?_); rintro e w1 ⟨rfl, hb⟩; have HW := Lib.hid (then_ HW.out hb); clear hb)
                  | ((with_reducible refine (few_any _ _ b 20 20 (HB.out.below HW.out)).mono ?_); rintro e w2 ⟨rfl, hb⟩; have HW := Lib.hid (then_ HW.out hb); clear hb)
                  | ((with_reducible refine (few_any _ _ c 20 20 (HC.out.below HW.out)).mono ?_); rintro e w2 ⟨rfl, hb⟩; have HW := Lib.hid (then_ HW.out hb); clear hb)))
                | (go_at_call 76; (first
                  | ((with_reducible refine (compose_as _ _ _ a L2 L3 0 HACC.out (HA.out.below HW.out) HBC.out hsa HSBC.out).mono ?_); rintro e w3 ⟨v3, rfl, hv, hb⟩; have HW := Lib.hid (then_ HW.out hb); have HX := Lib.hid (HX.out.below hb); have HY := Lib.hid hv; clear hv hb)
                  | ((with_reducible refine (compose_as _ _ _ AB c L3 _ HLZ3.out HAB.out (HC.out.below HW.out) HSC.out hsc).mono ?_); rintro e w3 ⟨v3, rfl, hv, hb⟩; have HW := Lib.hid (then_ HW.out hb); have HAB := Lib.hid (HAB.out.below hb); have HBC := Lib.hid (HBC.out.below hb); have HX := Lib.hid hv; clear hv hb)
                  | ((with_reducible refine (compose_as _ _ _ b c L2 _ HLZ2.out (HB.out.below HW.out) (HC.out.below HW.out) hsb hsc).mono ?_); rintro e w3 ⟨v3, rfl, hv, hb⟩; have HW := Lib.hid (then_ HW.out hb); have HAB := Lib.hid (HAB.out.below hb); have HBC := Lib.hid hv; clear hv hb)
                  | ((with_reducible refine (compose_as _ _ _ a b AB _ HLZ.out (HA.out.below HW.out) (HB.out.below HW.out) hsa hsb).mono ?_); rintro e w3 ⟨v3, rfl, hv, hb⟩; have HW := Lib.hid (then_ HW.out hb); have HAB := Lib.hid hv; clear hv hb)))
                | (go_at_call 56; (first
                  | ((with_reducible refine (apply_any _ _ _ b (applyS text a) (HB.out.below HW.out) HQ.out HSB1.out HSZ.out HBL H2.out).mono ?_); rintro e w4 ⟨v4, rfl, hv, hb⟩; have HW := Lib.hid (then_ HW.out hb); have HAB := Lib.hid (HAB.out.below hb); have HP := Lib.hid (HP.out.below hb); have HR := Lib.hid hv; clear hv hb)
                  | ((with_reducible refine (apply_any _ _ _ a text (HA.out.below HW.out) (HT.out.below HW.out) HSA1.out hst HAL H1.out).mono ?_); rintro e w4 ⟨v4, rfl, hv, hb⟩; have HW := Lib.hid (then_ HW.out hb); have HAB := Lib.hid (HAB.out.below hb); have HP := Lib.hid (HP.out.below hb); have HQ := Lib.hid hv; clear hv hb)
                  | ((with_reducible refine (apply_any _ _ _ AB text HAB.out (HT.out.below HW.out) HSC1.out hst HCL (by rw [HTA.out]; exact H2.out)).mono ?_); rintro e w4 ⟨v4, rfl, hv, hb⟩; have HW := Lib.hid (then_ HW.out hb); have HAB := Lib.hid (HAB.out.below hb); rw [HTA.out] at hv; have HP := Lib.hid hv; clear hv hb)))
                | (go_at_call 31; (refine (equal_str_same _ _ _ _ HP.out HR.out).mono ?_; rintro e w5 ⟨rfl, hb⟩; have HW := Lib.hid (then_ HW.out hb); have HAB := Lib.hid (HAB.out.below hb); clear hb))
                | (go_at_call 78; (refine (equalFunc_binds _ _ _ L3 HX.out HY.out).mono ?_; rintro e w5 ⟨rfl, hb⟩; have HW := Lib.hid (then_ HW.out hb); clear hb))
                | (go_at_call 54; (refine (awake06 _).mono ?_; rintro e w6 ⟨rfl, hb⟩; have HW := Lib.hid (then_ HW.out hb); clear hb)))
              go_ret
              exact ⟨rfl, HW.out⟩
          · have t1 : (z != 0) = true := by simpa using hz
            have t2 : (z == 0) = false := by simpa using hz
            clear hz hLz hfa hfb hfc
            go_enter Try.func15, Try.ntmps15
            go_wp2_with (first
              | (go_at_call 53; (first
                | ((with_reducible refine (few_any _ _ a 20 20 (HA.out.below HW.out)).mono ?_); rintro e w1 ⟨rfl, hb⟩; have HW := Lib.hid (then_ HW.out hb); clear hb)
                | ((with_reducible refine (few_any _ _ b 20 20 (HB.out.below HW.out)).mono ?_); rintro e w2 ⟨rfl, hb⟩; have HW := Lib.hid (then_ HW.out hb); clear hb)
                | ((with_reducible refine (few_any _ _ c 20 20 (HC.out.below HW.out)).mono ?_); rintro e w2 ⟨rfl, hb⟩; have HW := Lib.hid (then_ HW.out hb); clear hb)))
              | (go_at_call 76; (first
                | ((with_reducible refine (compose_as _ _ _ a L2 L3 0 HACC.out (HA.out.below HW.out) HBC.out hsa HSBC.out).mono ?_); rintro e w3 ⟨v3, rfl, hv, hb⟩; have HW := Lib.hid (then_ HW.out hb); have HX := Lib.hid (HX.out.below hb); have HY := Lib.hid hv; clear hv hb)
                | ((with_reducible refine (compose_as _ _ _ AB c L3 _ HLZ3.out HAB.out (HC.out.below HW.out) HSC.out hsc).mono ?_); rintro e w3 ⟨v3, rfl, hv, hb⟩; have HW := Lib.hid (then_ HW.out hb); have HAB := Lib.hid (HAB.out.below hb); have HBC := Lib.hid (HBC.out.below hb); have HX := Lib.hid hv; clear hv hb)
                | ((with_reducible refine (compose_as _ _ _ b c L2 _ HLZ2.out (HB.out.below HW.out) (HC.out.below HW.out) hsb hsc).mono ?_); rintro e w3 ⟨v3, rfl, hv, hb⟩; have HW := Lib.hid (then_ HW.out hb); have HAB := Lib.hid (HAB.out.below hb); have HBC := Lib.hid hv; clear hv hb)
                | ((with_reducible refine (compose_as _ _ _ a b AB _ HLZ.out (HA.out.below HW.out) (HB.out.below HW.out) hsa hsb).mono ?_); rintro e w3 ⟨v3, rfl, hv, hb⟩; have HW := Lib.hid (then_ HW.out hb); have HAB := Lib.hid hv; clear hv hb)))
              | (go_at_call 56; (first
                | ((with_reducible refine (apply_any _ _ _ b (applyS text a) (HB.out.below HW.out) HQ.out HSB1.out HSZ.out HBL H2.out).mono ?_); rintro e w4 ⟨v4, rfl, hv, hb⟩; have HW := Lib.hid (then_ HW.out hb); have HAB := Lib.hid (HAB.out.below hb); have HP := Lib.hid (HP.out.below hb); have HR := Lib.hid hv; clear hv hb)
                | ((with_reducible refine (apply_any _ _ _ a text (HA.out.below HW.out) (HT.out.below HW.out) HSA1.out hst HAL H1.out).mono ?_); rintro e w4 ⟨v4, rfl, hv, hb⟩; have HW := Lib.hid (then_ HW.out hb); have HAB := Lib.hid (HAB.out.below hb); have HP := Lib.hid (HP.out.below hb); have HQ := Lib.hid hv; clear hv hb)
                | ((with_reducible refine (apply_any _ _ _ AB text HAB.out (HT.out.below HW.out) HSC1.out hst HCL (by rw [HTA.out]; exact H2.out)).mono ?_); rintro e w4 ⟨v4, rfl, hv, hb⟩; have HW := Lib.hid (then_ HW.out hb); have HAB := Lib.hid (HAB.out.below hb); rw [HTA.out] at hv; have HP := Lib.hid hv; clear hv hb)))
              | (go_at_call 31; (refine (equal_str_same _ _ _ _ HP.out HR.out).mono ?_; rintro e w5 ⟨rfl, hb⟩; have HW := Lib.hid (then_ HW.out hb); have HAB := Lib.hid (HAB.out.below hb); clear hb))
              | (go_at_call 78; (refine (equalFunc_binds _ _ _ L3 HX.out HY.out).mono ?_; rintro e w5 ⟨rfl, hb⟩; have HW := Lib.hid (then_ HW.out hb); clear hb))
              | (go_at_call 54; (refine (awake06 _).mono ?_; rintro e w6 ⟨rfl, hb⟩; have HW := Lib.hid (then_ HW.out hb); clear hb)))
            go_ret
            exact ⟨rfl, HW.out⟩
        · have e4 : decide ((40 : Int) < (text.length : Int)) = true := decide_eq_true (by omega)
          clear hfa hfb hfc
          go_enter Try.func15, Try.ntmps15
          go_wp2_with (first
            | (go_at_call 53; (first
              | ((with_reducible refine (few_any _ _ a 20 20 (HA.out.below HW.out)).mono ?_); rintro e w1 ⟨rfl, hb⟩; have HW := Lib.hid (then_ HW.out hb); clear hb)
              | ((with_reducible refine (few_any _ _ b 20 20 (HB.out.below HW.out)).mono ?_); rintro e w2 ⟨rfl, hb⟩; have HW := Lib.hid (then_ HW.out hb); clear hb)
              | ((with_reducible refine (few_any _ _ c 20 20 (HC.out.below HW.out)).mono ?_); rintro e w2 ⟨rfl, hb⟩; have HW := Lib.hid (then_ HW.out hb); clear hb)))
            | (go_at_call 76; (first
              | ((with_reducible refine (compose_as _ _ _ a L2 L3 0 HACC.out (HA.out.below HW.out) HBC.out hsa HSBC.out).mono ?_); rintro e w3 ⟨v3, rfl, hv, hb⟩; have HW := Lib.hid (then_ HW.out hb); have HX := Lib.hid (HX.out.below hb); have HY := Lib.hid hv; clear hv hb)
              | ((with_reducible refine (compose_as _ _ _ AB c L3 _ HLZ3.out HAB.out (HC.out.below HW.out) HSC.out hsc).mono ?_); rintro e w3 ⟨v3, rfl, hv, hb⟩; have HW := Lib.hid (then_ HW.out hb); have HAB := Lib.hid (HAB.out.below hb); have HBC := Lib.hid (HBC.out.below hb); have HX := Lib.hid hv; clear hv hb)
              | ((with_reducible refine (compose_as _ _ _ b c L2 _ HLZ2.out (HB.out.below HW.out) (HC.out.below HW.out) hsb hsc).mono ?_); rintro e w3 ⟨v3, rfl, hv, hb⟩; have HW := Lib.hid (then_ HW.out hb); have HAB := Lib.hid (HAB.out.below hb); have HBC := Lib.hid hv; clear hv hb)
              | ((with_reducible refine (compose_as _ _ _ a b AB _ HLZ.out (HA.out.below HW.out) (HB.out.below HW.out) hsa hsb).mono ?_); rintro e w3 ⟨v3, rfl, hv, hb⟩; have HW := Lib.hid (then_ HW.out hb); have HAB := Lib.hid hv; clear hv hb)))
            | (go_at_call 56; (first
              | ((with_reducible refine (apply_any _ _ _ b (applyS text a) (HB.out.below HW.out) HQ.out HSB1.out HSZ.out HBL H2.out).mono ?_); rintro e w4 ⟨v4, rfl, hv, hb⟩; have HW := Lib.hid (then_ HW.out hb); have HAB := Lib.hid (HAB.out.below hb); have HP := Lib.hid (HP.out.below hb); have HR := Lib.hid hv; clear hv hb)
              | ((with_reducible refine (apply_any _ _ _ a text (HA.out.below HW.out) (HT.out.below HW.out) HSA1.out hst HAL H1.out).mono ?_); rintro e w4 ⟨v4, rfl, hv, hb⟩; have HW := Lib.hid (then_ HW.out hb); have HAB := Lib.hid (HAB.out.below hb); have HP := Lib.hid (HP.out.below hb); have HQ := Lib.hid hv; clear hv hb)
              | ((with_reducible refine (apply_any _ _ _ AB text HAB.out (HT.out.below HW.out) HSC1.out hst HCL (by rw [HTA.out]; exact H2.out)).mono ?_); rintro e w4 ⟨v4, rfl, hv, hb⟩; have HW := Lib.hid (then_ HW.out hb); have HAB := Lib.hid (HAB.out.below hb); rw [HTA.out] at hv; have HP := Lib.hid hv; clear hv hb)))
            | (go_at_call 31; (refine (equal_str_same _ _ _ _ HP.out HR.out).mono ?_; rintro e w5 ⟨rfl, hb⟩; have HW := Lib.hid (then_ HW.out hb); have HAB := Lib.hid (HAB.out.below hb); clear hb))
            | (go_at_call 78; (refine (equalFunc_binds _ _ _ L3 HX.out HY.out).mono ?_; rintro e w5 ⟨rfl, hb⟩; have HW := Lib.hid (then_ HW.out hb); clear hb))
            | (go_at_call 54; (refine (awake06 _).mono ?_; rintro e w6 ⟨rfl, hb⟩; have HW := Lib.hid (then_ HW.out hb); clear hb)))
          go_ret
          exact ⟨rfl, HW.out⟩
      · have e3 : decide (FewS c 20 20) = false := decide_eq_false hfc
        clear hfa hfb hfc
        go_enter Try.func15, Try.ntmps15
        go_wp2_with (first
          | (go_at_call 53; (first
            | ((with_reducible refine (few_any _ _ a 20 20 (HA.out.below HW.out)).mono ?_); rintro e w1 ⟨rfl, hb⟩; have HW := Lib.hid (then_ HW.out hb); clear hb)
            | ((with_reducible refine (few_any _ _ b 20 20 (HB.out.below HW.out)).mono ?_); rintro e w2 ⟨rfl, hb⟩; have HW := Lib.hid (then_ HW.out hb); clear hb)
            | ((with_reducible refine (few_any _ _ c 20 20 (HC.out.below HW.out)).mono ?_); rintro e w2 ⟨rfl, hb⟩; have HW := Lib.hid (then_ HW.out hb); clear hb)))
          | (go_at_call 76; (first
            | ((with_reducible refine (compose_as _ _ _ a L2 L3 0 HACC.out (HA.out.below HW.out) HBC.out hsa HSBC.out).mono ?_); rintro e w3 ⟨v3, rfl, hv, hb⟩; have HW := Lib.hid (then_ HW.out hb); have HX := Lib.hid (HX.out.below hb); have HY := Lib.hid hv; clear hv hb)
            | ((with_reducible refine (compose_as _ _ _ AB c L3 _ HLZ3.out HAB.out (HC.out.below HW.out) HSC.out hsc).mono ?_); rintro e w3 ⟨v3, rfl, hv, hb⟩; have HW := Lib.hid (then_ HW.out hb); have HAB := Lib.hid (HAB.out.below hb); have HBC := Lib.hid (HBC.out.below hb); have HX := Lib.hid hv; clear hv hb)
            | ((with_reducible refine (compose_as _ _ _ b c L2 _ HLZ2.out (HB.out.below HW.out) (HC.out.below HW.out) hsb hsc).mono ?_); rintro e w3 ⟨v3, rfl, hv, hb⟩; have HW := Lib.hid (then_ HW.out hb); have HAB := Lib.hid (HAB.out.below hb); have HBC := Lib.hid hv; clear hv hb)
            | ((with_reducible refine (compose_as _ _ _ a b AB _ HLZ.out (HA.out.below HW.out) (HB.out.below HW.out) hsa hsb).mono ?_); rintro e w3 ⟨v3, rfl, hv, hb⟩; have HW := Lib.hid (then_ HW.out hb); have HAB := Lib.hid hv; clear hv hb)))
          | (go_at_call 56; (first
            | ((with_reducible refine (apply_any _ _ _ b (applyS text a) (HB.out.below HW.out) HQ.out HSB1.out HSZ.out HBL H2.out).mono ?_); rintro e w4 ⟨v4, rfl, hv, hb⟩; have HW := Lib.hid (then_ HW.out hb); have HAB := Lib.hid (HAB.out.below hb); have HP := Lib.hid (HP.out.below hb); have HR := Lib.hid hv; clear hv hb)
            | ((with_reducible refine (apply_any _ _ _ a text (HA.out.below HW.out) (HT.out.below HW.out) HSA1.out hst HAL H1.out).mono ?_); rintro e w4 ⟨v4, rfl, hv, hb⟩; have HW := Lib.hid (then_ HW.out hb); have HAB := Lib.hid (HAB.out.below hb); have HP := Lib.hid (HP.out.below hb); have HQ := Lib.hid hv; clear hv hb)
            | ((with_reducible refine (apply_any _ _ _ AB text HAB.out (HT.out.below HW.out) HSC1.out hst HCL (by rw [HTA.out]; exact H2.out)).mono ?_); rintro e w4 ⟨v4, rfl, hv, hb⟩; have HW := Lib.hid (then_ HW.out hb); have HAB := Lib.hid (HAB.out.below hb); rw [HTA.out] at hv; have HP := Lib.hid hv; clear hv hb)))
          | (go_at_call 31; (refine (equal_str_same _ _ _ _ HP.out HR.out).mono ?_; rintro e w5 ⟨rfl, hb⟩; have HW := Lib.hid (then_ HW.out hb); have HAB := Lib.hid (HAB.out.below hb); clear hb))
          | (go_at_call 78; (refine (equalFunc_binds _ _ _ L3 HX.out HY.out).mono ?_; rintro e w5 ⟨rfl, hb⟩; have HW := Lib.hid (then_ HW.out hb); clear hb))
          | (go_at_call 54; (refine (awake06 _).mono ?_; rintro e w6 ⟨rfl, hb⟩; have HW := Lib.hid (then_ HW.out hb); clear hb)))
        go_ret
        exact ⟨rfl, HW.out⟩
    · have e2 : decide (FewS b 20 20) = false := decide_eq_false hfb
      clear hfa hfb
      go_enter Try.func15, Try.ntmps15
      go_wp2_with (first
        | (go_at_call 53; (first
          | ((with_reducible refine (few_any _ _ a 20 20 (HA.out.below HW.out)).mono ?_); rintro e w1 ⟨rfl, hb⟩; have HW := Lib.hid (then_ HW.out hb); clear hb)
          | ((with_reducible refine (few_any _ _ b 20 20 (HB.out.below HW.out)).mono ?_); rintro e w2 ⟨rfl, hb⟩; have HW := Lib.hid (then_ HW.out hb); clear hb)
          | ((with_reducible refine (few_any _ _ c 20 20 (HC.out.below HW.out)).mono ?_); rintro e w2 ⟨rfl, hb⟩; have HW := Lib.hid (then_ HW.out hb); clear hb)))
        | (go_at_call 76; (first
          | ((with_reducible refine (compose_as _ _ _ a L2 L3 0 HACC.out (HA.out.below HW.out) HBC.out hsa HSBC.out).mono ?_); rintro e w3 ⟨v3, rfl, hv, hb⟩; have HW := Lib.hid (then_ HW.out hb); have HX := Lib.hid (HX.out.below hb); have HY := Lib.hid hv; clear hv hb)
          | ((with_reducible refine (compose_as _ _ _ AB c L3 _ HLZ3.out HAB.out (HC.out.below HW.out) HSC.out hsc).mono ?_); rintro e w3 ⟨v3, rfl, hv, hb⟩; have HW := Lib.hid (then_ HW.out hb); have HAB := Lib.hid (HAB.out.below hb); have HBC := Lib.hid (HBC.out.below hb); have HX := Lib.hid hv; clear hv hb)
          | ((with_reducible refine (compose_as _ _ _ b c L2 _ HLZ2.out (HB.out.below HW.out) (HC.out.below HW.out) hsb hsc).mono ?_); rintro e w3 ⟨v3, rfl, hv, hb⟩; have HW := Lib.hid (then_ HW.out hb); have HAB := Lib.hid (HAB.out.below hb); have HBC := Lib.hid hv; clear hv hb)
          | ((with_reducible refine (compose_as _ _ _ a b AB _ HLZ.out (HA.out.below HW.out) (HB.out.below HW.out) hsa hsb).mono ?_); rintro e w3 ⟨v3, rfl, hv, hb⟩; have HW := Lib.hid (then_ HW.out hb); have HAB := Lib.hid hv; clear hv hb)))
        | (go_at_call 56; (first
          | ((with_reducible refine (apply_any _ _ _ b (applyS text a) (HB.out.below HW.out) HQ.out HSB1.out HSZ.out HBL H2.out).mono ?_); rintro e w4 ⟨v4, rfl, hv, hb⟩; have HW := Lib.hid (then_ HW.out hb); have HAB := Lib.hid (HAB.out.below hb); have HP := Lib.hid (HP.out.below hb); have HR := Lib.hid hv; clear hv hb)
          | ((with_reducible refine (apply_any _ _ _ a text (HA.out.below HW.out) (HT.out.below HW.out) HSA1.out hst HAL H1.out).mono ?_); rintro e w4 ⟨v4, rfl, hv, hb⟩; have HW := Lib.hid (then_ HW.out hb); have HAB := Lib.hid (HAB.out.below hb); have HP := Lib.hid (HP.out.below hb); have HQ := Lib.hid hv; clear hv hb)
          | ((with_reducible refine (apply_any _ _ _ AB text HAB.out (HT.out.below HW.out) HSC1.out hst HCL (by rw [HTA.out]; exact H2.out)).mono ?_); rintro e w4 ⟨v4, rfl, hv, hb⟩; have HW := Lib.hid (then_ HW.out hb); have HAB := Lib.hid (HAB.out.below hb); rw [HTA.out] at hv; have HP := Lib.hid hv; clear hv hb)))
        | (go_at_call 31; (refine (equal_str_same _ _ _ _ HP.out HR.out).mono ?_; rintro e w5 ⟨rfl, hb⟩; have HW := Lib.hid (then_ HW.out hb); have HAB := Lib.hid (HAB.out.below hb); clear hb))
        | (go_at_call 78; (refine (equalFunc_binds _ _ _ L3 HX.out HY.out).mono ?_; rintro e w5 ⟨rfl, hb⟩; have HW := Lib.hid (then_ HW.out hb); clear hb))
        | (go_at_call 54; (refine (awake06 _).mono ?_; rintro e w6 ⟨rfl, hb⟩; have HW := Lib.hid (then_ HW.out hb); clear hb)))
      go_ret
      exact ⟨rfl, HW.out⟩
  · have e1 : decide (FewS a 20 20) = false := decide_eq_false hfa
    clear hfa
    go_enter Try.func15, Try.ntmps15
    go_wp2_with (first
      | (go_at_call 53; (first
        | ((with_reducible refine (few_any _ _ a 20 20 (HA.out.below HW.out)).mono ?_); rintro e w1 ⟨rfl, hb⟩; have HW := Lib.hid (then_ HW.out hb); clear hb)
        | ((with_reducible refine (few_any _ _ b 20 20 (HB.out.below HW.out)).mono ?_); rintro e w2 ⟨rfl, hb⟩; have HW := Lib.hid (then_ HW.out hb); clear hb)
        | ((with_reducible refine (few_any _ _ c 20 20 (HC.out.below HW.out)).mono ?_); rintro e w2 ⟨rfl, hb⟩; have HW := Lib.hid (then_ HW.out hb); clear hb)))
      | (go_at_call 76; (first
        | ((with_reducible refine (compose_as _ _ _ a L2 L3 0 HACC.out (HA.out.below HW.out) HBC.out hsa HSBC.out).mono ?_); rintro e w3 ⟨v3, rfl, hv, hb⟩; have HW := Lib.hid (then_ HW.out hb); have HX := Lib.hid (HX.out.below hb); have HY := Lib.hid hv; clear hv hb)
        | ((with_reducible refine (compose_as _ _ _ AB c L3 _ HLZ3.out HAB.out (HC.out.below HW.out) HSC.out hsc).mono ?_); rintro e w3 ⟨v3, rfl, hv, hb⟩; have HW := Lib.hid (then_ HW.out hb); have HAB := Lib.hid (HAB.out.below hb); have HBC := Lib.hid (HBC.out.below hb); have HX := Lib.hid hv; clear hv hb)
        | ((with_reducible refine (compose_as _ _ _ b c L2 _ HLZ2.out (HB.out.below HW.out) (HC.out.below HW.out) hsb hsc).mono ?_); rintro e w3 ⟨v3, rfl, hv, hb⟩; have HW := Lib.hid (then_ HW.out hb); have HAB := Lib.hid (HAB.out.below hb); have HBC := Lib.hid hv; clear hv hb)
        | ((with_reducible refine (compose_as _ _ _ a b AB _ HLZ.out (HA.out.below HW.out) (HB.out.below HW.out) hsa hsb).mono ?_); rintro e w3 ⟨v3, rfl, hv, hb⟩; have HW := Lib.hid (then_ HW.out hb); have HAB := Lib.hid hv; clear hv hb)))
      | (go_at_call 56; (first
        | ((with_reducible refine (apply_any _ _ _ b (applyS text a) (HB.out.below HW.out) HQ.out HSB1.out HSZ.out HBL H2.out).mono ?_); rintro e w4 ⟨v4, rfl, hv, hb⟩; have HW := Lib.hid (then_ HW.out hb); have HAB := Lib.hid (HAB.out.below hb); have HP := Lib.hid (HP.out.below hb); have HR := Lib.hid hv; clear hv hb)
        | ((with_reducible refine (apply_any _ _ _ a text (HA.out.below HW.out) (HT.out.below HW.out) HSA1.out hst HAL H1.out).mono ?_); rintro e w4 ⟨v4, rfl, hv, hb⟩; have HW := Lib.hid (then_ HW.out hb); have HAB := Lib.hid (HAB.out.below hb); have HP := Lib.hid (HP.out.below hb); have HQ := Lib.hid hv; clear hv hb)
        | ((with_reducible refine (apply_any _ _ _ AB text HAB.out (HT.out.below HW.out) HSC1.out hst HCL (by rw [HTA.out]; exact H2.out)).mono ?_); rintro e w4 ⟨v4, rfl, hv, hb⟩; have HW := Lib.hid (then_ HW.out hb); have HAB := Lib.hid (HAB.out.below hb); rw [HTA.out] at hv; have HP := Lib.hid hv; clear hv hb)))
      | (go_at_call 31; (refine (equal_str_same _ _ _ _ HP.out HR.out).mono ?_; rintro e w5 ⟨rfl, hb⟩; have HW := Lib.hid (then_ HW.out hb); have HAB := Lib.hid (HAB.out.below hb); clear hb))
      | (go_at_call 78; (refine (equalFunc_binds _ _ _ L3 HX.out HY.out).mono ?_; rintro e w5 ⟨rfl, hb⟩; have HW := Lib.hid (then_ HW.out hb); clear hb))
      | (go_at_call 54; (refine (awake06 _).mono ?_; rintro e w6 ⟨rfl, hb⟩; have HW := Lib.hid (then_ HW.out hb); clear hb)))
    go_ret
    exact ⟨rfl, HW.out⟩
end Go.Proofs.Ytieclecpjjfhfaa
