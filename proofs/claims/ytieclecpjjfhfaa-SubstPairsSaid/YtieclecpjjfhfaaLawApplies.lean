/- SubstApplies: Check, Apply, Limited and Fits of any formulas and bindings are the reference's. -/
import Derived.Test.YtieclecpjjfhfaaSubAwake
import Derived.Test.YtieclecpjjfhfaaSubCheck
import Derived.Test.YtieclecpjjfhfaaSubOpen
import Derived.Test.YtieclecpjjfhfaaSubIter
import Derived.Test.YtieclecpjjfhfaaLaw
namespace Go.Proofs.Ytieclecpjjfhfaa
open Go.RowKit
theorem image_len {l : List BindD} {m : Nat} (h : ∀ x ∈ l, x.2.length ≤ m) (hm : 1 ≤ m) (s : List UInt8) : (imageS l s).length ≤ m := by
  rcases image_mem l s with e | ⟨x, hx, e⟩
  · rw [e]; simpa using hm
  · rw [e]; exact h x hx
theorem apply_len {l : List BindD} {m : Nat} (h : ∀ x ∈ l, x.2.length ≤ m) (hm : 1 ≤ m) : ∀ (t : Form), (applyS t l).length ≤ t.length * m := by
  intro t
  induction t with
  | nil => simp [applyS]
  | cons s t ih =>
    rw [applyS_cons, List.length_append, List.length_cons, Nat.add_mul]
    have := image_len h hm s
    omega
theorem limited_as (w : World) (lv tv : Value) (l : List BindD) (text : Form) (most : Int) (L : Form) (z : Int) (h : limitedS text l most = (L, z)) (hl : BindAt w lv l) (ht : Strs w tv text) (hsl : ∀ x ∈ l, x.1.length ≤ maxLen) (hsz : ∀ s ∈ text, s.length ≤ maxLen) (hL : l.length ≤ 1000000) (hA : (applyS text l).length ≤ 1000000000) (hmx : most ≤ 9223372036854775807) :
    Calls Try.prog 69 #[tv, lv, .int .i64 most] w fun e w' => ∃ v, e = .returned (.tuple #[v, .int .i64 z]) ∧ Strs w' v L ∧ Below w.heap.size w w' := by
  have := limited_any w lv tv l text most hl ht hsl hsz hL hA hmx
  rwa [h] at this
theorem ref_limited_as (w : World) (lv tv : Value) (l : List BindD) (text : Form) (most : Int) (L : Form) (z : Int) (h : limitedS text l most = (L, z)) (hl : BindAt w lv l) (ht : Strs w tv text) (hA : (applyS text l).length ≤ 1000000000) (hmx : most ≤ 9223372036854775807) :
    Calls Try.prog 70 #[tv, lv, .int .i64 most] w fun e w' => ∃ v, e = .returned (.tuple #[v, .int .i64 z]) ∧ Strs w' v L ∧ Below w.heap.size w w' := by
  have := ref_limited w lv tv l text most hl ht hA hmx
  rwa [h] at this
theorem fits_self (w : World) (lv pv tv : Value) (l : List BindD) (pat : Form) (hl : BindAt w lv l) (hp : Strs w pv pat) (ht : Strs w tv (applyS pat l)) (hsl : ∀ x ∈ l, x.1.length ≤ maxLen) (hsz : ∀ s ∈ pat, s.length ≤ maxLen) (hL : l.length ≤ 1000000) (hA : (applyS pat l).length ≤ 1000000000) :
    Calls Try.prog 74 #[pv, lv, tv] w fun e w' => e = .returned (.bool true) ∧ Below w.heap.size w w' := by
  have := fits_any w lv pv tv l pat (applyS pat l) hl hp ht hsl hsz hL hA
  simpa using this
set_option maxRecDepth 100000 in
set_option maxHeartbeats 4000000 in
theorem law_applies (w : World) (pv tv lv : Value) (pat text : Form) (l : List BindD) (most : Int) (hp : Strs w pv pat) (ht : Strs w tv text) (hl : BindAt w lv l)
    (hsp : ∀ s ∈ pat, s.length ≤ maxLen) (hsl : ∀ x ∈ l, x.1.length ≤ maxLen) (hmx : most ≤ 9223372036854775807) :
    Calls Try.prog 13 #[pv, tv, lv, .int .i64 most] w fun e w' => e = .returned (.bool true) ∧ Below w.heap.size w w' := by
  obtain ⟨pA, pc, rfl⟩ := hp.form
  obtain ⟨tA, tc, rfl⟩ := ht.form
  have hpm : pat.length ≤ maxLen := by obtain ⟨_, _, _, _, h, _⟩ := hp; exact h
  have htm : text.length ≤ maxLen := by obtain ⟨_, _, _, _, h, _⟩ := ht; exact h
  have hl0 := hl
  obtain ⟨lA, lc, rfl, _⟩ := hl
  unfold maxLen at hpm htm
  have HL := Lib.hid hl0
  have HP := Lib.hid hp
  have HT := Lib.hid ht
  clear hl0 hp ht
  by_cases hf : FewS l 60 4000
  · have e1 : decide (FewS l 60 4000) = true := decide_eq_true hf
    by_cases hp6 : pat.length ≤ 60
    · have e2 : decide ((60 : Int) < (pat.length : Int)) = false := decide_eq_false (by omega)
      by_cases ht2 : text.length ≤ 200
      · have e3 : decide ((200 : Int) < (text.length : Int)) = false := decide_eq_false (by omega)
        have hL : l.length ≤ 1000000 := by have := hf.1; omega
        have hA : (applyS pat l).length ≤ 1000000000 := by
          have := apply_len (l := l) (m := 4000) (fun x hx => by have := hf.2 x hx; omega) (by decide) pat
          omega
        obtain ⟨⟨L, z⟩, hLz⟩ : ∃ r, limitedS pat l most = r := ⟨_, rfl⟩
        have HLZ := Lib.hid hLz
        have HA := Lib.hid hA
        clear hf hLz hA
        go_enter Try.func13, Try.ntmps13
        go_wp2_with (first
          | (go_at_call 53; (refine (few_any _ _ l 60 4000 HL.out).mono ?_; rintro e w1 ⟨rfl, hb⟩; have HB := Lib.hid hb; clear hb))
          | (go_at_call 69; (refine (limited_as _ _ _ l pat most L z HLZ.out (HL.out.below HB.out) (HP.out.below HB.out) hsl hsp hL HA.out hmx).mono ?_; rintro e w2 ⟨v2, rfl, hv, hb⟩; have HB := Lib.hid (then_ HB.out hb); obtain ⟨xA, xc, rfl⟩ := hv.form; have HX := Lib.hid hv; clear hv hb))
          | (go_at_call 70; (refine (ref_limited_as _ _ _ l pat most L z HLZ.out (HL.out.below HB.out) (HP.out.below HB.out) HA.out hmx).mono ?_; rintro e w3 ⟨v3, rfl, hv, hb⟩; have HB := Lib.hid (then_ HB.out hb); obtain ⟨yA, yc, rfl⟩ := hv.form; have HX := Lib.hid (HX.out.below hb); have HY := Lib.hid hv; clear hv hb))
          | (go_at_call 71; (refine (check_any _ _ l (HL.out.below HB.out) hsl).mono ?_; rintro e w4 ⟨rfl, hb⟩; have HB := Lib.hid (then_ HB.out hb); have HX := Lib.hid (HX.out.below hb); have HY := Lib.hid (HY.out.below hb); clear hb))
          | (go_at_call 72; (refine (ref_check _ _ l (HL.out.below HB.out)).mono ?_; rintro e w5 ⟨rfl, hb⟩; have HB := Lib.hid (then_ HB.out hb); have HX := Lib.hid (HX.out.below hb); have HY := Lib.hid (HY.out.below hb); clear hb))
          | (go_at_call 56; (refine (apply_any _ _ _ l pat (HL.out.below HB.out) (HP.out.below HB.out) hsl hsp hL HA.out).mono ?_; rintro e w6 ⟨v6, rfl, hv, hb⟩; have HB := Lib.hid (then_ HB.out hb); have HX := Lib.hid (HX.out.below hb); have HY := Lib.hid (HY.out.below hb); have HQ := Lib.hid hv; clear hv hb))
          | (go_at_call 73; (refine (ref_apply _ _ _ l pat (HL.out.below HB.out) (HP.out.below HB.out) HA.out).mono ?_; rintro e w7 ⟨v7, rfl, hv, hb⟩; have HB := Lib.hid (then_ HB.out hb); have HX := Lib.hid (HX.out.below hb); have HY := Lib.hid (HY.out.below hb); have HQ := Lib.hid (HQ.out.below hb); have HR := Lib.hid hv; clear hv hb))
          | (go_at_call 31; (first | (with_reducible refine (equal_str_same _ _ _ _ HX.out HY.out).mono ?_) | (with_reducible refine (equal_str_same _ _ _ _ HQ.out HR.out).mono ?_)); (rintro e w8 ⟨rfl, hb⟩; have HB := Lib.hid (then_ HB.out hb); have HX := Lib.hid (HX.out.below hb); have HY := Lib.hid (HY.out.below hb); have HQ := Lib.hid (HQ.out.below hb); clear hb))
          | (go_at_call 74; (first | (with_reducible refine (fits_self _ _ _ _ l pat (HL.out.below HB.out) (HP.out.below HB.out) HR.out hsl hsp hL HA.out).mono ?_) | (with_reducible refine (fits_any _ _ _ _ l pat text (HL.out.below HB.out) (HP.out.below HB.out) (HT.out.below HB.out) hsl hsp hL HA.out).mono ?_)); (rintro e w9 ⟨rfl, hb⟩; have HB := Lib.hid (then_ HB.out hb); have HQ := Lib.hid (HQ.out.below hb); clear hb))
          | (go_at_call 75; (refine (ref_fits _ _ _ _ l pat text (HL.out.below HB.out) (HP.out.below HB.out) (HT.out.below HB.out) HA.out).mono ?_; rintro e w10 ⟨rfl, hb⟩; have HB := Lib.hid (then_ HB.out hb); have HX := Lib.hid (HP.out.below HB.out); have HY := HX; have HQ := HX; clear hb))
          | (go_at_call 54; (refine (awake06 _).mono ?_; rintro e w11 ⟨rfl, hb⟩; have HB := Lib.hid (then_ HB.out hb); clear hb)))
        go_ret
        exact ⟨rfl, HB.out⟩
      · have e3 : decide ((200 : Int) < (text.length : Int)) = true := decide_eq_true (by omega)
        clear hf
        go_enter Try.func13, Try.ntmps13
        go_wp2_with (first
          | (go_at_call 53; (refine (few_any _ _ l 60 4000 HL.out).mono ?_; rintro e w1 ⟨rfl, hb1⟩))
          | (go_at_call 54; (refine (awake06 _).mono ?_; rintro e w2 ⟨rfl, hb2⟩)))
        go_ret
        exact ⟨rfl, then_ hb1 hb2⟩
    · have e2 : decide ((60 : Int) < (pat.length : Int)) = true := decide_eq_true (by omega)
      clear hf
      go_enter Try.func13, Try.ntmps13
      go_wp2_with (first
        | (go_at_call 53; (refine (few_any _ _ l 60 4000 HL.out).mono ?_; rintro e w1 ⟨rfl, hb1⟩))
        | (go_at_call 54; (refine (awake06 _).mono ?_; rintro e w2 ⟨rfl, hb2⟩)))
      go_ret
      exact ⟨rfl, then_ hb1 hb2⟩
  · have e1 : decide (FewS l 60 4000) = false := decide_eq_false hf
    clear hf
    go_enter Try.func13, Try.ntmps13
    go_wp2_with (first
      | (go_at_call 53; (refine (few_any _ _ l 60 4000 HL.out).mono ?_; rintro e w1 ⟨rfl, hb1⟩))
      | (go_at_call 54; (refine (awake06 _).mono ?_; rintro e w2 ⟨rfl, hb2⟩)))
    go_ret
    exact ⟨rfl, then_ hb1 hb2⟩
end Go.Proofs.Ytieclecpjjfhfaa
