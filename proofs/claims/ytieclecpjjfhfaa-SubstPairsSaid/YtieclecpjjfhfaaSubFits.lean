/- Fits of the program and of the reference. -/
import Derived.Test.YtieclecpjjfhfaaSubLim
namespace Go.Proofs.Ytieclecpjjfhfaa
open Go.RowKit
set_option maxRecDepth 100000 in
set_option maxHeartbeats 2000000 in
theorem fits_any (w : World) (lv pv tv : Value) (l : List BindD) (pat text : Form) (hl : BindAt w lv l) (hp : Strs w pv pat) (ht : Strs w tv text) (hsl : ∀ x ∈ l, x.1.length ≤ maxLen) (hsz : ∀ s ∈ pat, s.length ≤ maxLen) (hL : l.length ≤ 1000000) (hA : (applyS pat l).length ≤ 1000000000) :
    Calls Try.prog 74 #[pv, lv, tv] w fun e w' => e = .returned (.bool (decide (applyS pat l = text))) ∧ Below w.heap.size w w' := by
  have hp0 := hp
  have ht0 := ht
  obtain ⟨A, c, rfl, hc, hm, hx⟩ := hp.open_
  obtain ⟨T, ct, rfl, hct, hmt, hxt⟩ := ht.open_
  unfold maxLen at hm hmt
  clear hx hxt hp ht
  have HA := Lib.hid hA
  clear hA
  go_enter Try.func74, Try.ntmps74
  go_wp2
  go_step3
  go_wp2_with (go_at_call 113; (refine (bind_any _ lv l hl hsl hL).mono ?_; rintro e w1 ⟨b, rfl, hbd, hb1⟩))
  go_step3
  go_wp2
  go_loopw [8, 17] (fun av i wr => ∃ (k a : Nat), k ≤ pat.length ∧ i = .int .i64 k ∧ av = .int .i64 a ∧ a = (applyS (pat.take k) l).length ∧ applyS (pat.take k) l <+: text ∧ a ≤ text.length ∧ Below w1.heap.size w1 wr) (fun _ i _ => pat.length - (intOf i).toNat)
  case atStart => exact ⟨0, 0, Nat.zero_le _, rfl, rfl, by simp [applyS], by simp [applyS], Nat.zero_le _, Below.refl _ _⟩
  case round =>
    obtain ⟨k, a, hk, rfl, rfl, ha, hpre, hat, hbw⟩ := hrel
    have HAL := Lib.hid ha
    have HPR := Lib.hid hpre
    have hwz := hbw.size
    clear ha hpre
    by_cases hlt : k < pat.length
    · obtain ⟨y, hy⟩ : ∃ y, pat[k]? = some y := ⟨_, List.getElem?_eq_getElem hlt⟩
      obtain ⟨A', c', hvv, _, _, hx⟩ := (hp0.below (then_ hb1 hbw)).open_
      obtain ⟨rfl, _, rfl⟩ := (by simpa using hvv : A = A' ∧ True ∧ c = c')
      obtain ⟨bt, ot, rfl, g1⟩ := hx k y hy
      have hys := hsz y (List.mem_of_getElem? hy)
      have HY := Lib.hid hy
      have HST := Lib.hid (apply_step hy HA.out)
      obtain ⟨N, hN⟩ : ∃ N, N = (imageS l y).length := ⟨_, rfl⟩
      have hN9 : N ≤ 1000000000 := by have := HST.out; omega
      have HN := Lib.hid hN
      clear hx hy hvv hN
      go_wp2_with (go_at_call 127; (refine (image_any _ b l y (hbd.below hbw) hys).mono ?_; rintro e w2 ⟨v1, rfl, hv1, hb2⟩; have HV1 := Lib.hid hv1; obtain ⟨ia, ic, rfl⟩ := hv1.form; rw [← HN.out] at HV1 ⊢))
      have hb2w : Below w.heap.size w w2 := then_ (then_ hb1 hbw) hb2
      have HB2W := Lib.hid hb2w
      clear hb2w
      go_loop [8, 25] (fun av jv => ∃ (j a' : Nat), j ≤ N ∧ jv = .int .i64 j ∧ av = .int .i64 a' ∧ a' = a + j ∧ applyS (pat.take k) l ++ (imageS l y).take j <+: text ∧ a' ≤ text.length) (fun _ jv => N - (intOf jv).toNat)
      case atStart => exact ⟨0, a, Nat.zero_le _, rfl, rfl, rfl, by simpa using HPR.out, hat⟩
      case round =>
        obtain ⟨j, a', hj, rfl, rfl, haj, hpj, hat'⟩ := hrel
        have HAJ := Lib.hid haj
        have HPJ := Lib.hid hpj
        clear haj hpj
        have hPl : Hid ((applyS (pat.take k) l ++ (imageS l y).take j).length = a') := Lib.hid (by rw [List.length_append, List.length_take, ← HN.out, ← HAL.out, HAJ.out]; omega)
        by_cases hjl : j < N
        · obtain ⟨x, hxx⟩ : ∃ x, (imageS l y)[j]? = some x := ⟨_, List.getElem?_eq_getElem (by rw [← HN.out]; exact hjl)⟩
          obtain ⟨ia', ic', hvv, _, _, hxi⟩ := HV1.out.open_
          obtain ⟨rfl, _, rfl⟩ := (by simpa using hvv : ia = ia' ∧ _ ∧ ic = ic')
          obtain ⟨bi, oi, rfl, gi⟩ := hxi j x hxx
          have HPP := Lib.hid (part_prefix HY.out hxx)
          have HXX := Lib.hid hxx
          clear hxi hvv hxx
          by_cases hae : a' = text.length
          · have e1 : ((a' : Int) == (text.length : Int)) = true := by simp [hae]
            have e2 : ((-1 : Int) == (text.length : Int)) = false := beq_eq_false_iff_ne.2 (by omega)
            have HNE : Hid (applyS pat l ≠ text) := Lib.hid (fun h => by
              have h1 := HPP.out
              rw [h] at h1
              refine not_prefix (P := applyS (pat.take k) l ++ (imageS l y).take j) ?_ h1
              rw [hPl.out, hae]; simp)
            clear hae
            go_wp2
            go_ret
            exact ⟨ret_dec HNE.out, HB2W.out⟩
          · have e1 : ((a' : Int) == (text.length : Int)) = false := by simp; omega
            obtain ⟨z, hzz⟩ : ∃ z, text[a']? = some z := ⟨_, List.getElem?_eq_getElem (by omega)⟩
            obtain ⟨T', ct', hvv, _, _, hxt⟩ := (ht0.below HB2W.out).open_
            obtain ⟨rfl, _, rfl⟩ := (by simpa using hvv : T = T' ∧ True ∧ ct = ct')
            obtain ⟨bx, ox, rfl, gt⟩ := hxt a' z hzz
            have hal : a' < text.length := by omega
            have HZ := Lib.hid hzz
            clear hxt hvv hzz hae
            by_cases hzx : z = x
            · have t2 : (z != x) = false := by simp [hzx]
              have t3 : (z == x) = true := by simp [hzx]
              have HZX := Lib.hid hzx
              clear hzx
              go_wp2
              go_round
              case rel => exact ⟨j + 1, a' + 1, by omega, by go_num, by go_num, by have := HAJ.out; omega, by
                have h1 := prefix_snoc HPJ.out (x := x) (by rw [hPl.out, HZ.out, HZX.out])
                rw [take_snoc HXX.out, ← List.append_assoc]
                exact h1, by omega⟩
              case measure => simp [intOf]; omega
            · have t2 : (z != x) = true := by simp [hzx]
              have t3 : (z == x) = false := by simp [hzx]
              have e2 : ((-1 : Int) == (text.length : Int)) = false := beq_eq_false_iff_ne.2 (by omega)
              have HNE : Hid (applyS pat l ≠ text) := Lib.hid (fun h => by
                have h1 := HPP.out
                rw [h] at h1
                refine not_prefix (P := applyS (pat.take k) l ++ (imageS l y).take j) ?_ h1
                rw [hPl.out, HZ.out]
                intro e; injection e with e; exact hzx e)
              clear hzx
              go_wp2
              go_ret
              exact ⟨ret_dec HNE.out, HB2W.out⟩
        · have hjN : j = (imageS l y).length := by rw [← HN.out]; omega
          have HK : Hid (applyS (pat.take (k + 1)) l = applyS (pat.take k) l ++ (imageS l y).take j) := Lib.hid (by rw [applyS_take HY.out, hjN, List.take_length])
          clear hjN
          go_wp2
          go_roundw
          case rel => exact ⟨k + 1, a', by omega, by go_num, rfl, by rw [HK.out, hPl.out], by rw [HK.out]; exact HPJ.out, hat', hbw.trans (hb2.mono hwz)⟩
          case measure => simp [intOf]; omega
    · obtain rfl : k = pat.length := by omega
      rw [List.take_length] at HAL HPR
      by_cases hal : a = text.length
      · have e1 : ((a : Int) == (text.length : Int)) = true := by simp [hal]
        have HE := Lib.hid ((prefix_whole HPR.out).2 (by rw [← HAL.out]; exact hal))
        clear hal
        go_wp2
        rw [Exit.noGoto_ret]
        go_ret
        exact ⟨ret_dec_t HE.out, then_ hb1 hbw⟩
      · have e1 : ((a : Int) == (text.length : Int)) = false := by simp; omega
        have HE : Hid (applyS pat l ≠ text) := Lib.hid (fun h => hal (by rw [HAL.out]; exact (prefix_whole HPR.out).1 h))
        clear hal
        go_wp2
        rw [Exit.noGoto_ret]
        go_ret
        exact ⟨ret_dec HE.out, then_ hb1 hbw⟩
theorem strs_zero (w : World) (A : Option Addr) (c : Nat) : Strs w (.slice A 0 c) [] := ⟨A, c, rfl, Nat.zero_le _, Nat.zero_le _, by simp, fun h => absurd h (by simp)⟩
set_option maxRecDepth 100000 in
set_option maxHeartbeats 4000000 in
theorem ref_fits (w : World) (lv pv tv : Value) (l : List BindD) (pat text : Form) (hl : BindAt w lv l) (hp : Strs w pv pat) (ht : Strs w tv text) (hA : (applyS pat l).length ≤ 1000000000) :
    Calls Try.prog 75 #[pv, lv, tv] w fun e w' => e = .returned (.bool (decide (applyS pat l = text))) ∧ Below w.heap.size w w' := by
  have hp0 := hp
  have ht0 := ht
  obtain ⟨A, c, rfl, hc, hm, hx⟩ := hp.open_
  obtain ⟨T, ct, rfl, hct, hmt, hxt⟩ := ht.open_
  unfold maxLen at hm hmt
  clear hx hxt hp ht
  have HA := Lib.hid hA
  clear hA
  go_enter Try.func75, Try.ntmps75
  go_wp2
  go_loopw [7, 8] (fun av i wr => ∃ (k a : Nat), k ≤ pat.length ∧ i = .int .i64 k ∧ av = .int .i64 a ∧ a = (applyS (pat.take k) l).length ∧ applyS (pat.take k) l <+: text ∧ a ≤ text.length ∧ Below w.heap.size w wr) (fun _ i _ => pat.length - (intOf i).toNat)
  case atStart => exact ⟨0, 0, Nat.zero_le _, rfl, rfl, by simp [applyS], by simp [applyS], Nat.zero_le _, Below.refl _ _⟩
  case round =>
    obtain ⟨k, a, hk, rfl, rfl, ha, hpre, hat, hbw⟩ := hrel
    have HAL := Lib.hid ha
    have HPR := Lib.hid hpre
    have hwz := hbw.size
    clear ha hpre
    by_cases hlt : k < pat.length
    · obtain ⟨y, hy⟩ : ∃ y, pat[k]? = some y := ⟨_, List.getElem?_eq_getElem hlt⟩
      obtain ⟨A', c', hvv, _, _, hx⟩ := (hp0.below hbw).open_
      obtain ⟨rfl, _, rfl⟩ := (by simpa using hvv : A = A' ∧ True ∧ c = c')
      obtain ⟨bt, ot, rfl, g1⟩ := hx k y hy
      have HY := Lib.hid hy
      have HST := Lib.hid (apply_step hy HA.out)
      obtain ⟨N, hN⟩ : ∃ N, N = (imageS l y).length := ⟨_, rfl⟩
      have hN9 : N ≤ 1000000000 := by have := HST.out; omega
      have HN := Lib.hid hN
      have htp : Hid (applyS (pat.take k) l = text.take a) := Lib.hid (by rw [HAL.out]; exact List.prefix_iff_eq_take.1 HPR.out)
      have hak : Hid (applyS (pat.take (k + 1)) l = applyS (pat.take k) l ++ imageS l y) := Lib.hid (applyS_take hy)
      have hpw : Hid (applyS (pat.take (k + 1)) l <+: applyS pat l) := Lib.hid (by
        have e : applyS pat l = applyS (pat.take (k + 1)) l ++ applyS (pat.drop (k + 1)) l := by rw [← applyS_append, List.take_append_drop]
        rw [e]; exact ⟨_, rfl⟩)
      clear hx hy hvv hN
      by_cases hov : text.length - a < N
      · have e1 : decide ((text.length : Int) - (a : Int) < (N : Int)) = true := decide_eq_true (by omega)
        have HNE : Hid (applyS pat l ≠ text) := Lib.hid (fun h => by
          have h1 := hpw.out
          rw [h, hak.out] at h1
          have h2 := h1.length_le
          rw [List.length_append, ← HAL.out, ← HN.out] at h2
          omega)
        clear hov
        go_wp2_with (go_at_call 128; (refine (ref_image _ _ l y (hl.below hbw)).mono ?_; rintro e w2 ⟨v1, rfl, hv1, hb2⟩; obtain ⟨ia, ic, rfl⟩ := hv1.form; rw [← HN.out]))
        go_ret
        exact ⟨ret_dec HNE.out, then_ hbw hb2⟩
      · have e1 : decide ((text.length : Int) - (a : Int) < (N : Int)) = false := decide_eq_false (by omega)
        have haN : a + N ≤ text.length := by omega
        clear hov
        have HPX : Hid (imageS l y = (text.take (a + N)).drop a → applyS (pat.take (k + 1)) l <+: text) := Lib.hid (fun h => by
          rw [hak.out, htp.out, h, List.drop_take, Nat.add_sub_cancel_left, ← List.take_add]
          exact List.take_prefix _ _)
        have HPN : Hid (imageS l y ≠ (text.take (a + N)).drop a → applyS pat l ≠ text) := Lib.hid (fun h h2 => by
          have h1 := hpw.out
          rw [h2, hak.out] at h1
          obtain ⟨r, hr⟩ := h1
          apply h
          have e : text.take (a + N) = applyS (pat.take k) l ++ imageS l y := by
            rw [← hr, List.take_left']
            rw [List.length_append, ← HAL.out, ← HN.out]
          rw [e, List.drop_left']
          exact HAL.out.symm)
        by_cases him : imageS l y = (text.take (a + N)).drop a
        · have e2 : decide (imageS l y = (text.take (a + N)).drop a) = true := decide_eq_true him
          have HPY := Lib.hid (HPX.out him)
          clear him
          by_cases htn : text = []
          · obtain ⟨rfl, rfl⟩ : a = 0 ∧ N = 0 := by rw [htn] at haN; simp at haN; omega
            have htl : Hid (text.length = 0) := Lib.hid (by rw [htn]; rfl)
            have htd : Hid ((text.take (0 + 0)).drop 0 = []) := Lib.hid (by simp)
            rw [htl.out] at hct hmt e1 ht0 haN ⊢
            clear htn
            cases T with
            | none =>
              go_wp2_with (first
                | (go_at_call 128; (refine (ref_image _ _ l y (hl.below hbw)).mono ?_; rintro e w2 ⟨v1, rfl, hv1, hb2⟩; have HV1 := Lib.hid hv1; obtain ⟨ia, ic, rfl⟩ := hv1.form; rw [← HN.out] at HV1 ⊢))
                | (go_at_call 129; (refine (same_any _ _ _ (imageS l y) [] HV1.out (strs_zero _ _ _)).mono ?_; rw [← htd.out, e2]; rintro e w3 ⟨rfl, hb3⟩)))
              go_roundw
              case rel => exact ⟨k + 1, 0, by omega, by go_num, rfl, by rw [hak.out, List.length_append, ← HAL.out, ← HN.out], HPY.out, Nat.zero_le _, (hbw.trans (hb2.mono hwz)).trans (hb3.mono (by have := hb2.size; omega))⟩
              case measure => simp [intOf]; omega
            | some ad =>
              go_wp2_with (first
                | (go_at_call 128; (refine (ref_image _ _ l y (hl.below hbw)).mono ?_; rintro e w2 ⟨v1, rfl, hv1, hb2⟩; have HV1 := Lib.hid hv1; obtain ⟨ia, ic, rfl⟩ := hv1.form; rw [← HN.out] at HV1 ⊢))
                | (go_at_call 129; (refine (same_any _ _ _ (imageS l y) [] HV1.out (strs_zero _ _ _)).mono ?_; rw [← htd.out, e2]; rintro e w3 ⟨rfl, hb3⟩)))
              go_roundw
              case rel => exact ⟨k + 1, 0, by omega, by go_num, rfl, by rw [hak.out, List.length_append, ← HAL.out, ← HN.out], HPY.out, Nat.zero_le _, (hbw.trans (hb2.mono hwz)).trans (hb3.mono (by have := hb2.size; omega))⟩
              case measure => simp [intOf]; omega
          · obtain ⟨T', ct', hvv, _, _, hxt⟩ := ht0.open_
            obtain ⟨rfl, _, rfl⟩ := (by simpa using hvv : T = T' ∧ True ∧ ct = ct')
            have hpos := List.length_pos_iff.2 htn
            obtain ⟨bx, ox, rfl, _⟩ := hxt 0 text[0] (List.getElem?_eq_getElem hpos)
            clear hxt hvv htn
            have hcut := Strs.cut_if (i := a) (j := a + N) (ht0.below hbw) (by omega) haN
            rw [Nat.add_sub_cancel_left] at hcut
            have HCUT := Lib.hid hcut
            clear hcut
            go_wp2_with (first
              | (go_at_call 128; (refine (ref_image _ _ l y (hl.below hbw)).mono ?_; rintro e w2 ⟨v1, rfl, hv1, hb2⟩; have HV1 := Lib.hid hv1; obtain ⟨ia, ic, rfl⟩ := hv1.form; rw [← HN.out] at HV1 ⊢))
              | (go_at_call 129; (refine (same_any _ _ _ (imageS l y) ((text.take (a + N)).drop a) HV1.out (HCUT.out.below hb2)).mono ?_; rw [e2]; rintro e w3 ⟨rfl, hb3⟩)))
            go_roundw
            case rel => exact ⟨k + 1, a + N, by omega, by go_num, by go_num, by rw [hak.out, List.length_append, ← HAL.out, ← HN.out], HPY.out, by omega, (hbw.trans (hb2.mono hwz)).trans (hb3.mono (by have := hb2.size; omega))⟩
            case measure => simp [intOf]; omega
        · have e2 : decide (imageS l y = (text.take (a + N)).drop a) = false := decide_eq_false him
          have HNE := Lib.hid (HPN.out him)
          clear him
          by_cases htn : text = []
          · obtain ⟨rfl, rfl⟩ : a = 0 ∧ N = 0 := by rw [htn] at haN; simp at haN; omega
            have htl : Hid (text.length = 0) := Lib.hid (by rw [htn]; rfl)
            have htd : Hid ((text.take (0 + 0)).drop 0 = []) := Lib.hid (by simp)
            rw [htl.out] at hct hmt e1 ht0 haN ⊢
            clear htn
            cases T with
            | none =>
              go_wp2_with (first
                | (go_at_call 128; (refine (ref_image _ _ l y (hl.below hbw)).mono ?_; rintro e w2 ⟨v1, rfl, hv1, hb2⟩; have HV1 := Lib.hid hv1; obtain ⟨ia, ic, rfl⟩ := hv1.form; rw [← HN.out] at HV1 ⊢))
                | (go_at_call 129; (refine (same_any _ _ _ (imageS l y) [] HV1.out (strs_zero _ _ _)).mono ?_; rw [← htd.out, e2]; rintro e w3 ⟨rfl, hb3⟩)))
              all_goals go_ret
              all_goals exact ⟨ret_dec HNE.out, then_ (then_ hbw hb2) hb3⟩
            | some ad =>
              go_wp2_with (first
                | (go_at_call 128; (refine (ref_image _ _ l y (hl.below hbw)).mono ?_; rintro e w2 ⟨v1, rfl, hv1, hb2⟩; have HV1 := Lib.hid hv1; obtain ⟨ia, ic, rfl⟩ := hv1.form; rw [← HN.out] at HV1 ⊢))
                | (go_at_call 129; (refine (same_any _ _ _ (imageS l y) [] HV1.out (strs_zero _ _ _)).mono ?_; rw [← htd.out, e2]; rintro e w3 ⟨rfl, hb3⟩)))
              all_goals go_ret
              all_goals exact ⟨ret_dec HNE.out, then_ (then_ hbw hb2) hb3⟩
          · obtain ⟨T', ct', hvv, _, _, hxt⟩ := ht0.open_
            obtain ⟨rfl, _, rfl⟩ := (by simpa using hvv : T = T' ∧ True ∧ ct = ct')
            have hpos := List.length_pos_iff.2 htn
            obtain ⟨bx, ox, rfl, _⟩ := hxt 0 text[0] (List.getElem?_eq_getElem hpos)
            clear hxt hvv htn
            have hcut := Strs.cut_if (i := a) (j := a + N) (ht0.below hbw) (by omega) haN
            rw [Nat.add_sub_cancel_left] at hcut
            have HCUT := Lib.hid hcut
            clear hcut
            go_wp2_with (first
              | (go_at_call 128; (refine (ref_image _ _ l y (hl.below hbw)).mono ?_; rintro e w2 ⟨v1, rfl, hv1, hb2⟩; have HV1 := Lib.hid hv1; obtain ⟨ia, ic, rfl⟩ := hv1.form; rw [← HN.out] at HV1 ⊢))
              | (go_at_call 129; (refine (same_any _ _ _ (imageS l y) ((text.take (a + N)).drop a) HV1.out (HCUT.out.below hb2)).mono ?_; rw [e2]; rintro e w3 ⟨rfl, hb3⟩)))
            all_goals go_ret
            all_goals exact ⟨ret_dec HNE.out, then_ (then_ hbw hb2) hb3⟩
    · obtain rfl : k = pat.length := by omega
      rw [List.take_length] at HAL HPR
      by_cases hal : a = text.length
      · have e1 : ((a : Int) == (text.length : Int)) = true := by simp [hal]
        have HE := Lib.hid ((prefix_whole HPR.out).2 (by rw [← HAL.out]; exact hal))
        clear hal
        go_wp2
        go_ret
        exact ⟨ret_dec_t HE.out, hbw⟩
      · have e1 : ((a : Int) == (text.length : Int)) = false := by simp; omega
        have HE : Hid (applyS pat l ≠ text) := Lib.hid (fun h => hal (by rw [HAL.out]; exact (prefix_whole HPR.out).1 h))
        clear hal
        go_wp2
        go_ret
        exact ⟨ret_dec HE.out, hbw⟩
end Go.Proofs.Ytieclecpjjfhfaa
