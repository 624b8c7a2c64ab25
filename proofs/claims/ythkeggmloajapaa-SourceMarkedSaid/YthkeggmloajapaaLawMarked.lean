/- The law SourceMarked. -/
import Derived.Test.YthkeggmloajapaaLawMarks
namespace Go.Proofs.Ythkeggmloajapaa
open Go.RowKit
theorem mstep_text {s : List UInt8} {k : Int} {t : List UInt8} {c : Nat} (h : mstep s = some (k, t, c)) : t.length ≤ c := by
  cases s with
  | nil => cases h
  | cons b r =>
    rw [mstep_cons] at h
    split at h
    · cases h; simp
    · split at h
      · split at h
        · cases h
        · cases h; omega
      · split at h
        · split at h
          · cases h
          · cases h; omega
        · split at h
          · cases h
            have := List.length_take_le (citeN r) r
            omega
          · cases h; simp
theorem sumM_snoc (l : List MarkD) (m : MarkD) : sumM (l ++ [m]) = sumM l + m.2.length := by simp [sumM]
theorem addM_sum (out : List MarkD) (k : Int) (t : List UInt8) : sumM (addM out k t) = sumM out + t.length := by
  unfold addM
  split
  · rename_i m hm
    split
    · obtain ⟨o, rfl⟩ := List.getLast?_eq_some_iff.1 hm
      rw [List.dropLast_concat, sumM_snoc, sumM_snoc]
      simp
      omega
    · exact sumM_snoc _ _
  · exact sumM_snoc _ _
theorem mrun_sum : ∀ (n : Nat) (s : List UInt8) (i : Nat) (out : List MarkD), s.length ≤ n → sumM (mrun n s i out).1 ≤ sumM out + s.length
  | 0, s, i, out, _ => by simp [mrun]
  | n + 1, s, i, out, h => by
    rw [mrun]
    split
    · simp
    · split
      · simp [sumM]
      · rename_i k t c hs
        have hp := mstep_pos hs
        have h1 := mrun_sum n (s.drop c) (i + c) (addM out k t) (by rw [List.length_drop]; omega)
        have h2 := mstep_text hs
        rw [addM_sum] at h1
        rw [List.length_drop] at h1
        omega
theorem marks_sum (s : List UInt8) : sumM (marksS s).1 ≤ s.length := by
  unfold marksS
  split
  · simp [sumM]
  · have h := mrun_sum s.length s 0 [] (Nat.le_refl _)
    simpa [sumM] using h
theorem heldMark : Try.prog.stoodInHeld 24 = false := by kernel_rfl
set_option maxRecDepth 100000 in
theorem equal_marks (w : World) (v1 v2 : Value) (l : List MarkD) (h1 : Rds w 2 v1 l.length (markC l)) (h2 : Rds w 2 v2 l.length (markC l)) :
    Calls Try.prog 8 #[v1, v2] w fun e w' => e = .returned (.bool true) ∧ Below w.heap.size w w' := by
  obtain ⟨A1, c1, rfl, hc1, hm1, hx1⟩ := marks_open h1
  obtain ⟨A2, c2, rfl, hc2, hm2, hx2⟩ := marks_open h2
  unfold maxLen at hm1 hm2
  have hh := heldMark
  go_enter Try.func8, Try.ntmps8
  go_wp2
  go_loopw [13] (fun i wr => ∃ k n : Nat, k ≤ l.length ∧ i = .int .i64 k ∧ wr = w.drewN n) (fun i _ => l.length - (intOf i).toNat)
  case atStart => exact ⟨0, 0, Nat.zero_le _, rfl, rfl⟩
  case round =>
    obtain ⟨k, n, hk, rfl, rfl⟩ := hrel
    by_cases hlt : k < l.length
    · obtain ⟨y, hy⟩ : ∃ y, l[k]? = some y := ⟨_, List.getElem?_eq_getElem hlt⟩
      obtain ⟨b1, o1, rfl, s1, s2⟩ := hx1 k y hy
      obtain ⟨b2, o2, rfl, r1, r2⟩ := hx2 k y hy
      clear hx1 hx2 hy
      go_wp2
      go_region
      go_wp2
      go_roundw
      case rel => exact ⟨k + 1, n + 1, by omega, by go_num, rfl⟩
      case measure => simp [intOf]; omega
    · go_wp2
      go_ret
      exact ⟨rfl, below_drewN (Below.refl _ _) n⟩
theorem first_any (w : World) (v a b : Value) : Calls Try.prog 5 #[v, a, b] w fun e w' => e = .returned v ∧ w = w' := by
  go_enter Try.func5, Try.ntmps5
  go_wp2
  go_ret
  exact ⟨rfl, rfl⟩
/-- marks that are few and short -/
structure MkSz (l : List MarkD) : Prop where
  each : ∀ m ∈ l, m.2.length ≤ 1000000
  sum : (l.flatMap (·.2)).length ≤ 100000000
theorem MkSz.of {l : List MarkD} (h : sumM l ≤ 3000) : MkSz l := ⟨fun m hm => by have := sumM_mem hm; omega, by unfold sumM at h; omega⟩
set_option maxRecDepth 100000 in
set_option maxHeartbeats 8000000 in
theorem law_marked (w : World) (s : List UInt8) (v : Value) (l : List MarkD) (hv : Rds w 2 v l.length (markC l)) (hM : MaxAt w) (hb24 : l.length * 24 ≤ 140737488351232) (hz : ∀ m ∈ l, m.2.length ≤ 140737488351232) (hsl : s.length ≤ maxLen) :
    Calls Try.prog 3 #[.string ⟨s.toArray⟩, v] w fun e w' => e = .returned (.bool true) ∧ Below w.heap.size w w' := by
  obtain ⟨A1, a1, rfl⟩ : ∃ a c, v = .slice a l.length c := by obtain ⟨a, c, h, _⟩ := hv; exact ⟨a, c, h⟩
  have HV := Lib.hid hv
  have HM := Lib.hid hM
  have HZ := Lib.hid hz
  have hln : l.length ≤ 9223372036854775807 := by omega
  clear hv hM hz
  unfold maxLen at hsl
  go_enter Try.func3, Try.ntmps3
  go_wp2
  go_loopw [5, 22] (fun nv iv wr => ∃ (k : Nat) (z : Int), k ≤ l.length ∧ iv = .int .i64 k ∧ nv = .int .i64 z ∧ (l.length ≤ 50 → z = (sumM (l.take k) : Nat)) ∧ Below w.heap.size w wr) (fun _ iv _ => l.length - (intOf iv).toNat)
  case atStart => exact ⟨0, 0, Nat.zero_le _, rfl, rfl, fun _ => rfl, Below.refl _ _⟩
  case round =>
    obtain ⟨wo, rfl⟩ : ∃ wo, wo = wr := ⟨_, rfl⟩
    obtain ⟨k, z, hk, rfl, rfl, hzk, hb⟩ := hrel
    have HB := Lib.hid hb
    by_cases hlt : k < l.length
    · obtain ⟨⟨mk, mt⟩, hx⟩ : ∃ x, l[k]? = some x := ⟨_, List.getElem?_eq_getElem hlt⟩
      obtain ⟨A', c', hvv, _, _, hxx⟩ := marks_open (HV.out.below hb)
      obtain ⟨b, o, hA, g1, g2⟩ := hxx k _ hx
      obtain ⟨rfl, _, rfl⟩ := (by simpa using hvv : A1 = A' ∧ True ∧ a1 = c')
      subst hA
      dsimp only at g1 g2
      have HZK : Hid (l.length ≤ 50 → wrap64 (z + (mt.length : Int)) = (sumM (l.take (k + 1)) : Nat)) := Lib.hid fun h => by
        have h1 := sumM_part l HZ.out (k + 1)
        have h2 : (k + 1) * 140737488351232 ≤ 50 * 140737488351232 := Nat.mul_le_mul_right _ (by omega)
        rw [sumM_take hx] at h1 ⊢
        rw [hzk h]
        dsimp only at h1 ⊢
        unfold wrap64
        omega
      clear hxx hx hvv hzk hb
      go_wp2
      go_roundw
      case rel => exact ⟨k + 1, _, by omega, by go_num, rfl, HZK.out, new_ HB.out _⟩
      case measure => exact ret_measure _ (by go_num) hlt
    · obtain rfl : k = l.length := by omega
      rw [List.take_length] at hzk
      clear hb hk hlt
      by_cases h1 : 2000 < s.length
      · have q1 : decide ((2000 : Int) < (s.length : Int)) = true := decide_eq_true (by omega)
        have p1 : decide (2000 < s.length) = true := decide_eq_true h1
        clear h1 hzk
        go_wp2_with (go_at_call 4; (refine (awake02 _ (HM.out.below HB.out)).mono ?_; rintro e w9 ⟨rfl, hb9⟩; have HB9 := Lib.hid (then_ HB.out hb9); clear hb9))
        go_ret
        exact ⟨rfl, HB9.out⟩
      · have q1 : decide ((2000 : Int) < (s.length : Int)) = false := decide_eq_false (by omega)
        have p1 : decide (2000 < s.length) = false := decide_eq_false h1
        have HSL : Hid (s.length ≤ 2000) := Lib.hid (by omega)
        clear h1
        by_cases h50 : 50 < l.length
        · have q3 : decide ((50 : Int) < (l.length : Int)) = true := decide_eq_true (by omega)
          clear hzk h50
          go_wp2_with (go_at_call 4; (refine (awake02 _ (HM.out.below HB.out)).mono ?_; rintro e w9 ⟨rfl, hb9⟩; have HB9 := Lib.hid (then_ HB.out hb9); clear hb9))
          go_ret
          exact ⟨rfl, HB9.out⟩
        · have q3 : decide ((50 : Int) < (l.length : Int)) = false := decide_eq_false (by omega)
          have hzs := hzk (by omega)
          clear hzk
          subst hzs
          by_cases h3000 : 3000 < sumM l
          · have q4 : decide ((3000 : Int) < ((sumM l : Nat) : Int)) = true := decide_eq_true (by omega)
            have q5 : decide (3000 < sumM l) = true := decide_eq_true h3000
            clear h3000 h50
            go_wp2_with (go_at_call 4; (refine (awake02 _ (HM.out.below HB.out)).mono ?_; rintro e w9 ⟨rfl, hb9⟩; have HB9 := Lib.hid (then_ HB.out hb9); clear hb9))
            go_ret
            exact ⟨rfl, HB9.out⟩
          · have q4 : decide ((3000 : Int) < ((sumM l : Nat) : Int)) = false := decide_eq_false (by omega)
            have q5 : decide (3000 < sumM l) = false := decide_eq_false h3000
            have HS1 := Lib.hid (MkSz.of (l := l) (by omega))
            obtain ⟨⟨ms, pl, er⟩, hms⟩ : ∃ r, marksS s = r := ⟨_, rfl⟩
            have HMS := Lib.hid hms
            have HS2 : Hid (MkSz ms) := Lib.hid (MkSz.of (by have h1 := marks_sum s; have h2 := HSL.out; rw [hms] at h1; dsimp only at h1; omega))
            have HFINE : Hid (er = 0 → (unmarkS ms).2 = 0) := Lib.hid fun e => marks_fine (i := pl) (by rw [hms, e]) (by have := HSL.out; omega)
            clear hms h50 h3000
            go_wp2_with (first
                | (go_at_call 6; (refine (marks_any _ s).mono ?_; rw [HMS.out]; rintro e w1 ⟨v1, rfl, hv1, hb1⟩; obtain ⟨A3, c3, rfl, -⟩ := marks_open hv1; have HV1 := Lib.hid hv1; have HB1 := Lib.hid (then_ HB.out hb1); clear hv1 hb1))
                | (go_at_call 5; (refine (first_any _ _ _ _).mono ?_; rintro e w2 ⟨rfl, rfl⟩)))
            obtain ⟨W2, hW2⟩ : ∃ W2, W2 = w1.alloc (.cells #[.slice A1 l.length a1, .slice A3 ms.length c3] 22) := ⟨_, rfl⟩
            rw [← hW2]
            have HR2 : Hid (Row W2 w1.heap.size 22 #[.slice A1 l.length a1, .slice A3 ms.length c3]) := Lib.hid (by rw [hW2]; exact Row.new _ _ _)
            have HB2 : Hid (Below w.heap.size w W2) := Lib.hid (by rw [hW2]; exact new_ HB1.out _)
            have HV2 : Hid (Rds W2 2 (.slice A3 ms.length c3) ms.length (markC ms)) := Lib.hid (by rw [hW2]; exact HV1.out.alloc _)
            clear hW2
            go_loopw [54] (fun iv wr => ∃ k : Nat, k ≤ 2 ∧ iv = .int .i64 k ∧ Below W2.heap.size W2 wr) (fun iv _ => 2 - (intOf iv).toNat)
            case atStart => exact ⟨0, by omega, rfl, Below.refl _ _⟩
            case round =>
              obtain ⟨wq, rfl⟩ : ∃ wq, wq = wr := ⟨_, rfl⟩
              obtain ⟨k, hk, rfl, hb⟩ := hrel
              have HBQ := Lib.hid hb
              have HWQ := Lib.hid (then_ HB2.out hb)
              by_cases hlt : k < 2
              · have hX : ∃ (xA : Option Addr) (xc : Nat) (X : List MarkD), wq.cell? ⟨w1.heap.size, k, none⟩ = some (.slice xA X.length xc) ∧ Hid (Rds wq 2 (.slice xA X.length xc) X.length (markC X)) ∧ Hid (MkSz X) := by
                  have hr := HR2.out.below hb HR2.out.lt
                  rcases (by omega : k = 0 ∨ k = 1) with rfl | rfl
                  · exact ⟨A1, a1, l, hr.cell rfl, Lib.hid (HV.out.below HWQ.out), HS1⟩
                  · exact ⟨A3, c3, ms, hr.cell rfl, Lib.hid (HV2.out.below hb), HS2⟩
                obtain ⟨xA, xc, X, hcell, HX, HXS⟩ := hX
                obtain ⟨⟨us, ue⟩, hus⟩ : ∃ r, unmarkS X = r := ⟨_, rfl⟩
                have HUS := Lib.hid hus
                clear hus hb
                by_cases hue : ue = 0
                · subst hue
                  have HBK := Lib.hid (marked_back HUS.out)
                  go_wp2_with (first
                    | (go_at_call 7; (refine (unmark_any _ _ X HX.out HXS.out.each HXS.out.sum).mono ?_; rintro e w3 ⟨rfl, hb3⟩; rw [HUS.out]; have HB3 := Lib.hid hb3; clear hb3))
                    | (go_at_call 6; (refine (marks_any _ us).mono ?_; rw [HBK.out]; rintro e w4 ⟨v4, rfl, hv4, hb4⟩; obtain ⟨A4, c4, rfl, -⟩ := marks_open hv4; have HV4 := Lib.hid hv4; have HB4 := Lib.hid (then_ HB3.out hb4); clear hv4 hb4))
                    | (go_at_call 8; (refine (equal_marks _ _ _ X HV4.out (HX.out.below HB4.out)).mono ?_; rintro e w5 ⟨rfl, hb5⟩; have HB5 := Lib.hid (then_ HB4.out hb5); clear hb5)))
                  go_roundw
                  case rel => exact ⟨k + 1, by omega, by go_num, then_ HBQ.out HB5.out⟩
                  case measure => exact ret_measure _ (by go_num) hlt
                · have e1 : (ue != 0) = true := by simpa using hue
                  clear hue
                  go_wp2_with (first
                    | (go_at_call 7; (refine (unmark_any _ _ X HX.out HXS.out.each HXS.out.sum).mono ?_; rintro e w3 ⟨rfl, hb3⟩; rw [HUS.out]; have HB3 := Lib.hid hb3; clear hb3)))
                  go_roundw
                  case rel => exact ⟨k + 1, by omega, by go_num, then_ HBQ.out HB3.out⟩
                  case measure => exact ret_measure _ (by go_num) hlt
              · obtain rfl : k = 2 := by omega
                clear hb hk hlt
                by_cases her : er = 0
                · subst her
                  obtain ⟨⟨us, ue⟩, hus⟩ : ∃ r, unmarkS ms = r := ⟨_, rfl⟩
                  have hue := HFINE.out rfl
                  rw [hus] at hue
                  dsimp only at hue
                  subst hue
                  have HUS := Lib.hid hus
                  clear hus
                  go_wp2_with (first
                    | (go_at_call 6; (refine (marks_any _ s).mono ?_; rw [HMS.out]; rintro e w4 ⟨v4, rfl, hv4, hb4⟩; obtain ⟨A4, c4, rfl, -⟩ := marks_open hv4; have HV4 := Lib.hid hv4; have HB4 := Lib.hid (then_ HWQ.out hb4); clear hv4 hb4))
                    | (go_at_call 7; (refine (unmark_any _ _ ms HV4.out HS2.out.each HS2.out.sum).mono ?_; rintro e w5 ⟨rfl, hb5⟩; rw [HUS.out]; have HB5 := Lib.hid (then_ HB4.out hb5); clear hb5))
                    | (go_at_call 4; (refine (awake02 _ (HM.out.below HB5.out)).mono ?_; rintro e w9 ⟨rfl, hb9⟩; have HB9 := Lib.hid (then_ HB5.out hb9); clear hb9)))
                  go_ret
                  exact ⟨rfl, HB9.out⟩
                · have e1 : (er == 0) = false := by simpa using her
                  clear her
                  go_wp2_with (first
                    | (go_at_call 6; (refine (marks_any _ s).mono ?_; rw [HMS.out]; rintro e w4 ⟨v4, rfl, hv4, hb4⟩; obtain ⟨A4, c4, rfl, -⟩ := marks_open hv4; have HB4 := Lib.hid (then_ HWQ.out hb4); clear hv4 hb4))
                    | (go_at_call 4; (refine (awake02 _ (HM.out.below HB4.out)).mono ?_; rintro e w9 ⟨rfl, hb9⟩; have HB9 := Lib.hid (then_ HB4.out hb9); clear hb9)))
                  go_ret
                  exact ⟨rfl, HB9.out⟩
end Go.Proofs.Ythkeggmloajapaa
