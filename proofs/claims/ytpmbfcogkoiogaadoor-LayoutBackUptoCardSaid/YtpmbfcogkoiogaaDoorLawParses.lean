/- LayoutParses: Parse of any words and Words of any statements are the reference's. -/
import Derived.Test.YtpmbfcogkoiogaaDoorOpenStm
import Derived.Test.YtpmbfcogkoiogaaDoorLayParA
import Derived.Test.YtpmbfcogkoiogaaDoorLayAllA
namespace Go.Proofs.YtpmbfcogkoiogaaDoor
open Go.RowKit
theorem few_stm {m : List StmD} (h : fewS m = true) (hz : ∀ x ∈ m, StmSz x) : ∀ x ∈ m, StmOk x := fun x hx => by
  have h1 : nS m ≤ 300 := by
    unfold fewS at h
    simp only [Bool.and_eq_true] at h
    exact of_decide_eq_true h.1.2
  have h2 : x.text.length + x.proof.length ≤ nS m := sum_mem (f := fun x : StmD => x.text.length + x.proof.length) hx
  obtain ⟨a, b, c⟩ := hz x hx
  exact ⟨a, b, c, by omega⟩
set_option maxRecDepth 100000 in
set_option maxHeartbeats 4000000 in
theorem law_parses (w : World) (v mv : Value) (l : List (List UInt8)) (m : List StmD) (hv : Strs w v l) (hm : Stms w mv m) (hF : FormsAt w) (h1 : l.flatten.length ≤ 1048576) (h2 : l.length ≤ 1048576) (hs : ∀ s ∈ l, s.length ≤ maxLen)
    (h3 : nS m ≤ 1048576) (h4 : zS m ≤ 1048576) (h5 : m.length ≤ 1048576) (hz : ∀ x ∈ m, StmSz x) :
    Calls Tryd.prog 3 #[v, mv] w fun e w' => e = .returned (.bool true) ∧ Below w.heap.size w w' := by
  have HV := Lib.hid hv
  have HM := Lib.hid hm
  have HF := Lib.hid hF
  have H1 := Lib.hid h1
  have HS := Lib.hid hs
  have H3 := Lib.hid h3
  have H4 := Lib.hid h4
  have HZ := Lib.hid hz
  obtain ⟨A1, c1, rfl, -⟩ := hv.open_
  obtain ⟨A2, c2, rfl, -⟩ := hm.open_
  clear hv hm hF h1 hs h3 h4 hz
  obtain ⟨b1, hb1⟩ : ∃ b, fewB l = b := ⟨_, rfl⟩
  obtain ⟨b3, hb3⟩ : ∃ b, fewS m = b := ⟨_, rfl⟩
  have HB1 := Lib.hid hb1
  have HB3 := Lib.hid hb3
  clear hb1 hb3
  have W1 := fun wx (hb : Below w.heap.size w wx) => words_law wx _ l (HV.out.below hb) H1.out h2
  have HW1 := Lib.hid W1
  clear W1
  by_cases hc : b1 = false ∧ l.length ≤ 8000
  · obtain ⟨rfl, h8⟩ := hc
    have e8 : decide ((l.length : Int) ≤ 8000) = true := decide_eq_true (by omega)
    go_enter Tryd.func3, Tryd.ntmps3
    go_wp2_with fail
    refine (words_law w _ l HV.out H1.out h2).mono ?_
    rw [HB1.out]
    rintro e w2 ⟨rfl, hb2⟩
    have HB2 := Lib.hid hb2
    clear hb2
    go_wp2_with fail
    refine (awake03 w2 (HF.out.below HB2.out)).mono ?_
    rintro e w3 ⟨rfl, hb3⟩
    go_wp2_with fail
    go_ret
    exact ⟨rfl, then_ HB2.out hb3⟩
  have e8 : b1 = false → decide ((l.length : Int) ≤ 8000) = false := fun h => decide_eq_false fun h8 => hc ⟨h, by omega⟩
  clear hc
  go_enter Tryd.func3, Tryd.ntmps3
  go_wp2_with fail
  refine (words_law w _ l HV.out H1.out h2).mono ?_
  rw [HB1.out]
  rintro e w2 ⟨rfl, hb2⟩
  have HB2 := Lib.hid hb2
  clear hb2
  cases b1
  all_goals
    first
    | (have e81 := e8 rfl)
    | (have e81 : True := trivial)
    clear e8
    go_wp2_with fail
    refine (few_any w2 _ m (HM.out.below HB2.out) H3.out H4.out h5).mono ?_
    rw [HB3.out]
    rintro e w3 ⟨rfl, hb3⟩
    have HB4 := Lib.hid (then_ HB2.out hb3)
    clear hb3
    cases b3 with
    | false =>
      go_wp2_with fail
      refine (awake03 w3 (HF.out.below HB4.out)).mono ?_
      rintro e w4 ⟨rfl, hb4⟩
      go_wp2_with fail
      go_ret
      exact ⟨rfl, then_ HB4.out hb4⟩
    | true =>
      have HOK := Lib.hid (few_stm HB3.out HZ.out)
      obtain ⟨⟨r1, n1, z1⟩, hr1⟩ : ∃ r, parseS l = r := ⟨_, rfl⟩
      obtain ⟨⟨r2, z2⟩, hr2⟩ : ∃ r, allW m = r := ⟨_, rfl⟩
      have HR1 := Lib.hid hr1
      have HR2 := Lib.hid hr2
      clear hr1 hr2
      have s1 : ((n1 : Int) == (n1 : Int)) = true := by simp
      have s2 : (z1 == z1) = true := by simp
      have s3 : (z2 == z2) = true := by simp
      have s4 : (n1 == n1) = true := by simp
      go_wp2_with fail
      refine (parse_any w3 _ l (HV.out.below HB4.out) (HF.out.below HB4.out)).mono ?_
      rw [HR1.out]
      rintro e w4 ⟨v4, rfl, hv4, hb4⟩
      have HV4 := Lib.hid hv4
      have HB5 := Lib.hid (then_ HB4.out hb4)
      obtain ⟨A4, d4, rfl, -⟩ := hv4.open_
      clear hv4 hb4
      go_wp2_with fail
      refine (ref_parse w4 _ l (HV.out.below HB5.out) HS.out).mono ?_
      rw [HR1.out]
      rintro e w5 ⟨v5, rfl, hv5, hb5⟩
      have HV5 := Lib.hid hv5
      replace HV4 := Lib.hid (HV4.out.below hb5)
      have HB6 := Lib.hid (then_ HB5.out hb5)
      obtain ⟨A5, d5, rfl, -⟩ := hv5.open_
      clear hv5 hb5
      go_wp2_with fail
      refine (all_any w5 _ m (HM.out.below HB6.out) (fun x hx => (HOK.out x hx).2.2.2) (HF.out.below HB6.out)).mono ?_
      rw [HR2.out]
      rintro e w6 ⟨v6, rfl, hv6, hb6⟩
      have HV6 := Lib.hid hv6
      replace HV4 := Lib.hid (HV4.out.below hb6)
      replace HV5 := Lib.hid (HV5.out.below hb6)
      have HB7 := Lib.hid (then_ HB6.out hb6)
      obtain ⟨A6, d6, rfl, -⟩ := hv6.open_
      clear hv6 hb6
      go_wp2_with fail
      refine (ref_all w6 _ m (HM.out.below HB7.out) HOK.out).mono ?_
      rw [HR2.out]
      rintro e w7 ⟨v7, rfl, hv7, hb7⟩
      have HV7 := Lib.hid hv7
      replace HV4 := Lib.hid (HV4.out.below hb7)
      replace HV5 := Lib.hid (HV5.out.below hb7)
      replace HV6 := Lib.hid (Strs.below HV6.out hb7)
      have HB8 := Lib.hid (then_ HB7.out hb7)
      obtain ⟨A7, d7, rfl, -⟩ := hv7.open_
      clear hv7 hb7
      go_wp2_with fail
      refine (equalStms w7 _ _ r1 HV4.out HV5.out).mono ?_
      rintro e w8 ⟨rfl, hb8⟩
      replace HV6 := Lib.hid (Strs.below HV6.out hb8)
      replace HV7 := Lib.hid (Strs.below HV7.out hb8)
      have HB9 := Lib.hid (then_ HB8.out hb8)
      clear hb8
      go_wp2_with fail
      refine (equal_str_same w8 _ _ r2 HV6.out HV7.out).mono ?_
      rintro e w9 ⟨rfl, hb9⟩
      have HB10 := Lib.hid (then_ HB9.out hb9)
      clear hb9
      go_wp2_with fail
      refine (awake03 w9 (HF.out.below HB10.out)).mono ?_
      rintro e w10 ⟨rfl, hb10⟩
      go_wp2_with fail
      go_ret
      exact ⟨rfl, then_ HB10.out hb10⟩
end Go.Proofs.YtpmbfcogkoiogaaDoor
