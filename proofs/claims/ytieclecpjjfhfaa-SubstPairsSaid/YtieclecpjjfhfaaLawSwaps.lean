/- SubstSwaps: an exchange of two symbols, done twice; Vars of Apply. -/
import Derived.Test.YtieclecpjjfhfaaLawApplies
namespace Go.Proofs.Ytieclecpjjfhfaa
open Go.RowKit
theorem apply_sz {l : List BindD} {text : Form} (hl : ∀ x ∈ l, ∀ s ∈ x.2, s.length ≤ maxLen) (ht : ∀ s ∈ text, s.length ≤ maxLen) : ∀ s ∈ applyS text l, s.length ≤ maxLen := by
  intro s hs
  obtain ⟨t, h1, h2⟩ := List.mem_flatMap.1 (show s ∈ text.flatMap (imageS l) from hs)
  rcases image_mem l t with e | ⟨x, hx, e⟩
  · rw [e] at h2; simp at h2; rw [h2]; exact ht t h1
  · rw [e] at h2; exact hl x hx s h2
/-- the variables of the images, one behind the other -/
def allS (l : List BindD) (vs : Form) (text : Form) : Form := text.flatMap fun s => varsS (applyS [s] l) vs
theorem allS_take {l : List BindD} {vs text : Form} {k : Nat} {y : List UInt8} (hy : text[k]? = some y) : allS l vs (text.take (k + 1)) = allS l vs (text.take k) ++ varsS (applyS [y] l) vs := by
  unfold allS; rw [List.take_add_one, hy, List.flatMap_append]; simp
theorem allS_len {l : List BindD} {m : Nat} (h : ∀ x ∈ l, x.2.length ≤ m) (hm : 1 ≤ m) (vs : Form) : ∀ (text : Form), (allS l vs text).length ≤ text.length * m := by
  intro text
  induction text with
  | nil => simp [allS]
  | cons s t ih =>
    have h1 := varsS_len vs (applyS [s] l)
    have h2 := image_len h hm s
    rw [← applyS_one] at h2
    have e : allS l vs (s :: t) = varsS (applyS [s] l) vs ++ allS l vs t := by unfold allS; rw [List.flatMap_cons]
    rw [e, List.length_append, List.length_cons, Nat.add_mul]
    omega
theorem allS_mem {l : List BindD} {vs text : Form} (hv : ∀ s ∈ vs, s.length ≤ maxLen) : ∀ s ∈ allS l vs text, s.length ≤ maxLen := by
  intro s hs
  obtain ⟨t, _, h2⟩ := List.mem_flatMap.1 (show s ∈ text.flatMap _ from hs)
  have := (varsRun_mem vs (applyS [t] l) [] s).1 h2
  exact hv s (by simpa using this.elim (by simp) (fun h => h.2))
def swapS (x y : List UInt8) : List BindD := [(x, [y]), (y, [x])]
theorem swap_bind (w : World) (x y : List UInt8) : BindAt (((w.alloc (.cells #[.string ⟨y.toArray⟩] 9)).alloc (.cells #[.string ⟨x.toArray⟩] 9)).alloc (.cells #[.string ⟨x.toArray⟩, .slice (some ⟨w.heap.size, 0, none⟩) 1 1, .string ⟨y.toArray⟩, .slice (some ⟨w.heap.size + 1, 0, none⟩) 1 1] 117)) (.slice (some ⟨w.heap.size + 1 + 1, 0, none⟩) 2 2) (swapS x y) :=
  BindAt.two (a := x) (b := y) (T := 117) (Row.new' _ _ _ (by simp)) (Strs.of_row (((Row.new' _ _ _ rfl).alloc _).alloc _) rfl rfl (by decide)) (Strs.of_row ((Row.new' _ _ _ (by simp)).alloc _) rfl rfl (by decide))
set_option maxRecDepth 100000 in
set_option maxHeartbeats 4000000 in
theorem law_swaps (w : World) (tv lv vv : Value) (text vs : Form) (l : List BindD) (x y : List UInt8) (ht : Strs w tv text) (hl : BindAt w lv l) (hv : Strs w vv vs)
    (hst : ∀ s ∈ text, s.length ≤ maxLen) (hsl : ∀ x ∈ l, x.1.length ≤ maxLen ∧ ∀ s ∈ x.2, s.length ≤ maxLen) (hsv : ∀ s ∈ vs, s.length ≤ maxLen) (hx : x.length ≤ maxLen) (hy : y.length ≤ maxLen) :
    Calls Try.prog 10 #[tv, lv, vv, .string ⟨x.toArray⟩, .string ⟨y.toArray⟩] w fun e w' => e = .returned (.bool true) ∧ Below w.heap.size w w' := by
  obtain ⟨tA, tc, rfl⟩ := ht.form
  obtain ⟨vA, vc, rfl⟩ := hv.form
  have htm : text.length ≤ maxLen := by obtain ⟨_, _, _, _, h, _⟩ := ht; exact h
  have hvm : vs.length ≤ maxLen := by obtain ⟨_, _, _, _, h, _⟩ := hv; exact h
  have hl0 := hl
  obtain ⟨lA, lc, rfl, _⟩ := hl
  unfold maxLen at htm hvm
  have HL := Lib.hid hl0
  have HT := Lib.hid ht
  have HV := Lib.hid hv
  have HSL1 := Lib.hid (fun x hx => (hsl x hx).1)
  have HSL2 := Lib.hid (fun x hx => (hsl x hx).2)
  have HX := Lib.hid hx
  have HY := Lib.hid hy
  clear hl0 ht hv hsl hx hy
  by_cases hf : FewS l 20 20
  · have e1 : decide (FewS l 20 20) = true := decide_eq_true hf
    by_cases ht6 : text.length ≤ 60
    · have e2 : decide ((60 : Int) < (text.length : Int)) = false := decide_eq_false (by omega)
      by_cases hv4 : vs.length ≤ 40
      · have e3 : decide ((40 : Int) < (vs.length : Int)) = false := decide_eq_false (by omega)
        have hL : l.length ≤ 1000000 := by have := hf.1; omega
        have hI : ∀ x ∈ l, x.2.length ≤ 20 := fun x hx => by have := hf.2 x hx; omega
        have HA : Hid (∀ t : Form, (applyS t l).length ≤ t.length * 20) := Lib.hid (apply_len hI (by decide))
        have HN : Hid (∀ t : Form, (allS l vs t).length ≤ t.length * 20) := Lib.hid (allS_len hI (by decide) vs)
        have HW : Hid (∀ t : Form, (applyS t (swapS x y)).length ≤ t.length * 1) := Lib.hid (apply_len (by intro z hz; simp [swapS] at hz; rcases hz with rfl | rfl <;> simp) (by decide))
        have HWS : Hid (∀ z ∈ swapS x y, z.1.length ≤ maxLen ∧ ∀ s ∈ z.2, s.length ≤ maxLen) := Lib.hid (by intro z hz; simp [swapS] at hz; rcases hz with rfl | rfl <;> simp [HX.out, HY.out])
        clear hf hI
        obtain ⟨i0, hi, hj0, hj1, hj2⟩ := info_parts infoStr
        go_enter Try.func10, Try.ntmps10
        go_wp2_with (go_at_call 53; (refine (few_any _ _ l 20 20 HL.out).mono ?_; rintro e w1 ⟨rfl, hb1⟩))
        obtain ⟨W3, hW3⟩ : ∃ W3, W3 = (((w1.alloc (.cells #[.string ⟨y.toArray⟩] 9)).alloc (.cells #[.string ⟨x.toArray⟩] 9)).alloc (.cells #[.string ⟨x.toArray⟩, .slice (some ⟨w1.heap.size, 0, none⟩) 1 1, .string ⟨y.toArray⟩, .slice (some ⟨w1.heap.size + 1, 0, none⟩) 1 1] 117)) := ⟨_, rfl⟩
        rw [← hW3]
        have HS : Hid (BindAt W3 (.slice (some ⟨w1.heap.size + 1 + 1, 0, none⟩) 2 2) (swapS x y)) := Lib.hid (by rw [hW3]; exact swap_bind w1 x y)
        have HB := Lib.hid (show Below w.heap.size w W3 by rw [hW3]; exact new_ (new_ (new_ hb1 _) _) _)
        clear hW3 hb1
        generalize w1.heap.size + 1 + 1 = gs at *
        generalize w1.heap.size = gz at *
        clear w1
        go_loopw [12, 14, 40] (fun av _ i wr => ∃ k : Nat, k ≤ text.length ∧ i = .int .i64 k ∧ wr.ownsRow W3.heap.size 9 1 av (allS l vs (text.take k)).length ((allS l vs (text.take k)).map strV) ∧ Below W3.heap.size W3 wr) (fun _ _ i _ => text.length - (intOf i).toNat)
        case atStart => exact ⟨0, Nat.zero_le _, rfl, World.ownsRow_nil _ _ _ _, Below.refl _ _⟩
        case round =>
          obtain ⟨k, hk, rfl, hown, hbw⟩ := hrel
          have hwz := hbw.size
          have HBW := Lib.hid (then_ HB.out hbw)
          by_cases hlt : k < text.length
          · obtain ⟨s, hs⟩ : ∃ s, text[k]? = some s := ⟨_, List.getElem?_eq_getElem hlt⟩
            obtain ⟨A', c', hvv, _, _, hxx⟩ := (HT.out.below HBW.out).open_
            obtain ⟨rfl, _, rfl⟩ := (by simpa using hvv : tA = A' ∧ True ∧ tc = c')
            obtain ⟨bt, ot, rfl, g1⟩ := hxx k s hs
            have hss := hst s (List.mem_of_getElem? hs)
            have HST := Lib.hid (allS_take (l := l) (vs := vs) hs)
            have hA1 : (applyS [s] l).length ≤ 20 := by have := HA.out [s]; simpa using this
            have hV1 : (varsS (applyS [s] l) vs).length ≤ 20 := Nat.le_trans (varsS_len _ _) hA1
            have HSZ := Lib.hid (apply_sz (text := [s]) HSL2.out (by simpa using hss))
            have HSS : Hid (∀ z ∈ [s], z.length ≤ maxLen) := Lib.hid (by simpa using hss)
            obtain ⟨M, hM⟩ : ∃ M, M = (allS l vs (text.take k)).length := ⟨_, rfl⟩
            obtain ⟨X, hX⟩ : ∃ X, X = (allS l vs (text.take k)).map strV := ⟨_, rfl⟩
            have hMl : M ≤ 1200 := by have := HN.out (text.take k); rw [List.length_take] at this; omega
            obtain ⟨V, hVV⟩ : ∃ V, V = varsS (applyS [s] l) vs := ⟨_, rfl⟩
            obtain ⟨Q, hQQ⟩ : ∃ Q, Q = applyS [s] l := ⟨_, rfl⟩
            rw [← hM, ← hX] at hown
            rw [← hVV] at hV1
            rw [← hQQ] at hA1
            have HM := Lib.hid hM
            have HXX := Lib.hid hX
            have HVV := Lib.hid hVV
            have HQQ := Lib.hid hQQ
            clear hxx hs hvv hM hX hss hVV hQQ
            go_wp2_with (first
              | (go_at_call 56; go_loud (refine (apply_any _ _ _ l [s] (HL.out.below (new_ HBW.out _)) (Strs.of_row (T := 9) (n := 1) (Row.new _ _ _) rfl rfl (by decide)) HSL1.out HSS.out hL (by rw [← HQQ.out]; omega)).mono ?_; rintro e w4 ⟨v4, rfl, hv4, hb4⟩; rw [← HQQ.out] at hv4; have HB4 := Lib.hid (then_ (new_ HBW.out _) hb4); have hw4 := then_ (new_ (Below.refl wr.heap.size wr) _) hb4; have HW4 := Lib.hid hw4; obtain ⟨qa, qc, rfl⟩ := hv4.form; have HV4 := Lib.hid hv4; clear hv4 hb4 hw4))
              | (go_at_call 55; (refine (vars_any _ _ _ Q vs HV4.out (HV.out.below HB4.out) (by rw [HQQ.out]; exact HSZ.out) hsv (by omega) (by omega)).mono ?_; rintro e w5 ⟨v5, rfl, hv5, hb5⟩; rw [HQQ.out, ← HVV.out] at hv5; have hw5 := then_ HW4.out hb5; have hown5 := own_below hown hw5; have hz5 := hw5.size; have HW5 := Lib.hid hw5; obtain ⟨ia, ic, rfl⟩ := hv5.form; clear hb5 hw5))
              | (at_builtin; (refine wpList_append_rds rfl (.tmp 44) (.tmp 50) 24 rfl W3.heap.size 9 i0 (.string ⟨#[]⟩) 1 16 Try.underlying24 hi hj0 hj1 hj2 rfl (by decide) _ M X rfl hown5 (.slice ia V.length ic) V.length (V.map strV) rfl hv5 (by simp [strV, Value.oneCell']) (by unfold maxLen; omega) (by omega) (by omega) ?_; intro v' wz hown' hgrow)))
            go_roundw
            case rel => exact ⟨k + 1, by omega, by go_num, by rw [HST.out, List.map_append, List.length_append, ← HVV.out, ← HM.out, ← HXX.out]; exact hown', (hbw.trans (HW5.out.mono hwz)).grown hgrow (by omega) (own_block hown5)⟩
            case measure => simp [intOf]; omega
          · obtain rfl : k = text.length := by omega
            rw [List.take_length] at hown
            have hal := HN.out text
            obtain ⟨ALL, hALL⟩ : ∃ ALL, ALL = allS l vs text := ⟨_, rfl⟩
            rw [← hALL] at hown hal
            obtain ⟨oa, oc, rfl, hco⟩ := own_form hown
            have hva := strs_of_own hown rfl
            have HVA := Lib.hid hva
            have HALL := Lib.hid hALL
            have HZA : Hid (∀ s ∈ ALL, s.length ≤ maxLen) := Lib.hid (by rw [hALL]; exact allS_mem hsv)
            have hTA := HA.out text
            have hTW := HW.out text
            obtain ⟨TW, hTWe⟩ : ∃ TW, TW = applyS text (swapS x y) := ⟨_, rfl⟩
            obtain ⟨TL, hTLe⟩ : ∃ TL, TL = applyS text l := ⟨_, rfl⟩
            rw [← hTWe] at hTW
            rw [← hTLe] at hTA
            have HTW := Lib.hid hTWe
            have HTL := Lib.hid hTLe
            have HTWZ : Hid (∀ s ∈ TW, s.length ≤ maxLen) := Lib.hid (by rw [hTWe]; exact apply_sz (fun z hz => (HWS.out z hz).2) hst)
            have HTLZ : Hid (∀ s ∈ TL, s.length ≤ maxLen) := Lib.hid (by rw [hTLe]; exact apply_sz HSL2.out hst)
            have HTWW : Hid (applyS TW (swapS x y) = text) := Lib.hid (by rw [hTWe]; exact applyS_swap text x y)
            have HS2 := Lib.hid (HS.out.below hbw)
            have hsw : (swapS x y).length ≤ 1000000 := by simp [swapS]
            clear hown hALL hTWe hTLe hva hbw hco
            go_wp2_with (first
              | (go_at_call 56; (first
                | ((with_reducible refine (apply_any _ _ _ l text (HL.out.below HBW.out) (HT.out.below HBW.out) HSL1.out hst hL (by rw [← HTL.out]; omega)).mono ?_); rintro e w6 ⟨v6, rfl, hv6, hb6⟩; rw [← HTL.out] at hv6; have HV8 := Lib.hid hv6; have HBW := Lib.hid (then_ HBW.out hb6); have HVA := Lib.hid (HVA.out.below hb6); clear hv6 hb6)
                | ((with_reducible refine (apply_any _ _ _ (swapS x y) TW HS3.out HV6.out (fun z hz => (HWS.out z hz).1) HTWZ.out hsw (by rw [HTWW.out]; omega)).mono ?_); rintro e w7 ⟨v7, rfl, hv7, hb7⟩; rw [HTWW.out] at hv7; have HV7 := Lib.hid hv7; have HBW := Lib.hid (then_ HBW.out hb7); have HVA := Lib.hid (HVA.out.below hb7); clear hv7 hb7)
                | ((with_reducible refine (apply_any _ _ _ (swapS x y) text HS2.out (HT.out.below HBW.out) (fun z hz => (HWS.out z hz).1) hst hsw (by rw [← HTW.out]; omega)).mono ?_); rintro e w6 ⟨v6, rfl, hv6, hb6⟩; rw [← HTW.out] at hv6; have HV6 := Lib.hid hv6; have HBW := Lib.hid (then_ HBW.out hb6); have HVA := Lib.hid (HVA.out.below hb6); have HS3 := Lib.hid (HS2.out.below hb6); clear hv6 hb6)))
              | (go_at_call 55; (first
                | ((with_reducible refine (vars_any _ _ _ ALL vs HVA.out (HV.out.below HBW.out) HZA.out hsv (by omega) (by omega)).mono ?_); rintro e w9 ⟨v9, rfl, hv9, hb9⟩; rw [HALL.out] at hv9; have HV10 := Lib.hid hv9; have HV9 := Lib.hid (HV9.out.below hb9); have HBW := Lib.hid (then_ HBW.out hb9); clear hv9 hb9)
                | ((with_reducible refine (vars_any _ _ _ TL vs HV8.out (HV.out.below HBW.out) HTLZ.out hsv (by omega) (by omega)).mono ?_); rintro e w9 ⟨v9, rfl, hv9, hb9⟩; rw [HTL.out, varsS_apply] at hv9; have HV9 := Lib.hid hv9; have HBW := Lib.hid (then_ HBW.out hb9); have HVA := Lib.hid (HVA.out.below hb9); clear hv9 hb9)))
              | (go_at_call 31; (first
                | ((with_reducible refine (equal_str_same _ _ _ _ HV9.out HV10.out).mono ?_); rintro e w10 ⟨rfl, hb10⟩; have HBW := Lib.hid (then_ HBW.out hb10); clear hb10)
                | ((with_reducible refine (equal_str_same _ _ _ _ HV7.out (HT.out.below HBW.out)).mono ?_); rintro e w10 ⟨rfl, hb10⟩; have HBW := Lib.hid (then_ HBW.out hb10); have HVA := Lib.hid (HVA.out.below hb10); clear hb10)))
              | (go_at_call 54; (refine (awake06 _).mono ?_; rintro e w11 ⟨rfl, hb11⟩)))
            go_ret
            exact ⟨rfl, then_ HBW.out hb11⟩
      · have e3 : decide ((40 : Int) < (vs.length : Int)) = true := decide_eq_true (by omega)
        clear hf
        go_enter Try.func10, Try.ntmps10
        go_wp2_with (first
          | (go_at_call 53; (refine (few_any _ _ l 20 20 HL.out).mono ?_; rintro e w1 ⟨rfl, hb1⟩))
          | (go_at_call 54; (refine (awake06 _).mono ?_; rintro e w2 ⟨rfl, hb2⟩)))
        go_ret
        exact ⟨rfl, then_ hb1 hb2⟩
    · have e2 : decide ((60 : Int) < (text.length : Int)) = true := decide_eq_true (by omega)
      clear hf
      go_enter Try.func10, Try.ntmps10
      go_wp2_with (first
        | (go_at_call 53; (refine (few_any _ _ l 20 20 HL.out).mono ?_; rintro e w1 ⟨rfl, hb1⟩))
        | (go_at_call 54; (refine (awake06 _).mono ?_; rintro e w2 ⟨rfl, hb2⟩)))
      go_ret
      exact ⟨rfl, then_ hb1 hb2⟩
  · have e1 : decide (FewS l 20 20) = false := decide_eq_false hf
    clear hf
    go_enter Try.func10, Try.ntmps10
    go_wp2_with (first
      | (go_at_call 53; (refine (few_any _ _ l 20 20 HL.out).mono ?_; rintro e w1 ⟨rfl, hb1⟩))
      | (go_at_call 54; (refine (awake06 _).mono ?_; rintro e w2 ⟨rfl, hb2⟩)))
    go_ret
    exact ⟨rfl, then_ hb1 hb2⟩
end Go.Proofs.Ytieclecpjjfhfaa
