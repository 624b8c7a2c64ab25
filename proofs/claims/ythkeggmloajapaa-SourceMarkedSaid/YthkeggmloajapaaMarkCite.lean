/- The divider of marks: its method cite. -/
import Derived.Test.YthkeggmloajapaaMarkRef
import Derived.IntWalk
namespace Go.Proofs.Ythkeggmloajapaa
open Go.RowKit
attribute [local go_sem ↓] Go.wp_at_zero Go.wp_at_succ
theorem citeP_true {b : UInt8} (h : citeP b = true) : b.toNat ≠ 91 ∧ b.toNat ≠ 93 ∧ sp b = false := by
  unfold citeP at h
  simp only [Bool.and_eq_true, bne_iff_ne, ne_eq, Bool.not_eq_true'] at h
  exact ⟨fun e => h.1 (UInt8.toNat_inj.1 (by simpa using e)), fun e => h.2.1 (UInt8.toNat_inj.1 (by simpa using e)), h.2.2⟩
theorem citeP_false {b : UInt8} (h : citeP b = false) : b = 91 ∨ (b.toNat ≠ 91 ∧ b = 93) ∨ (b.toNat ≠ 91 ∧ b.toNat ≠ 93 ∧ b ≠ 93 ∧ sp b = true) := by
  by_cases h1 : b = 91
  · exact .inl h1
  · have n1 : b.toNat ≠ 91 := fun e => h1 (UInt8.toNat_inj.1 (by simpa using e))
    by_cases h2 : b = 93
    · exact .inr (.inl ⟨n1, h2⟩)
    · have n2 : b.toNat ≠ 93 := fun e => h2 (UInt8.toNat_inj.1 (by simpa using e))
      refine .inr (.inr ⟨n1, n2, h2, ?_⟩)
      unfold citeP at h
      simpa [h1, h2] using h
set_option maxRecDepth 100000 in
set_option maxHeartbeats 4000000 in
theorem cite_any (w : World) (g : Nat) (text pl : List UInt8) (i : Nat) (ms : List MarkD) (pv mv : Value) (h : DivR w g text i pl ms pv mv) (hi : i < text.length) (ht : text.length ≤ 40000) (hn : pl.length ≤ 40000) (hm : ms.length ≤ 40000) (r : List UInt8) (hr : text.drop (i + 1) = r) :
    Calls Try.prog 13 #[.pointer (some ⟨g, 0, none⟩)] w fun e w' => e = .returned (.bool (decide (citeN r ≠ 0))) ∧ Below g w w' ∧
      (citeN r = 0 → DivR w' g text i pl ms pv mv) ∧ (citeN r ≠ 0 → ∃ pv' mv', DivR w' g text ((i + (citeN r + 2) : Nat) : Int) [] (flatM pl ms ++ [(4, r.take (citeN r))]) pv' mv') := by
  have H := Lib.hid h
  have hlt := h.row.lt
  obtain ⟨P, hP⟩ : ∃ P, i + 1 + (r.takeWhile citeP).length = P := ⟨_, rfl⟩
  have hple : P ≤ text.length := by rw [← hP, ← hr]; exact span_le (p := citeP) hi
  have hle : i + 1 ≤ P := by omega
  have HI1 : Hid (∀ m, i + 1 ≤ m → m < P → ∃ h : m < text.length, citeP text[m] = true) := Lib.hid fun m a b => span_in a (by rw [← hP, ← hr] at b; exact b)
  have HE1 : Hid (∀ h : P < text.length, citeP text[P] = false) := Lib.hid fun h => span_end (a := i + 1) (by rw [← hP, ← hr]) h
  have hk : r[(r.takeWhile citeP).length]? = text[P]? := by rw [← hr, List.getElem?_drop, hr, hP]
  have HNO : Hid (text[P]? ≠ some 93 ∨ P = i + 1 → citeN r = 0) := Lib.hid fun h => by
    unfold citeN
    rw [hk]
    split
    · rename_i h1
      rcases h with h | h
      · exact absurd h1 h
      · omega
    · rfl
  have HYES : Hid (text[P]? = some 93 → P ≠ i + 1 → citeN r = P - (i + 1) ∧ citeN r ≠ 0 ∧ i + (citeN r + 2) = P + 1 ∧ (text.drop (i + 1)).take (P - (i + 1)) = r.take (citeN r)) := Lib.hid fun h1 h2 => by
    have e : citeN r = P - (i + 1) := by
      unfold citeN
      rw [hk, if_pos h1]
      omega
    exact ⟨e, by omega, by omega, by rw [e, hr]⟩
  clear hP hk hr
  have c0 := h.row.cell (i := 0) (v := .string ⟨text.toArray⟩) rfl
  have c1 := h.row.cell (i := 1) (v := .int .i64 i) rfl
  clear h
  go_enter Try.func13, Try.ntmps13
  go_wp2_with fail
  go_loopw [3] (fun jv wr => ∃ m : Nat, i + 1 ≤ m ∧ m ≤ P ∧ jv = .int .i64 m ∧ Below w.heap.size w wr) (fun jv _ => P - (intOf jv).toNat)
  case atStart => exact ⟨i + 1, Nat.le_refl _, hle, by go_num, Below.refl _ _⟩
  case round =>
    obtain ⟨wo, rfl⟩ : ∃ wo, wo = wr := ⟨_, rfl⟩
    obtain ⟨m, hm1, hm2, rfl, hb⟩ := hrel
    have HB := Lib.hid hb
    have k0 := cellM c0 hb
    have k1 := cellM c1 hb
    clear hb
    by_cases hlt1 : m < P
    · obtain ⟨hml, hsp⟩ := HI1.out m hm1 hlt1
      obtain ⟨b, hbx⟩ : ∃ b, text[m] = b := ⟨_, rfl⟩
      rw [hbx] at hsp
      obtain ⟨n1, n2, n3⟩ := citeP_true hsp
      obtain ⟨c, hce, hcl⟩ : ∃ c : Nat, (ByteArray.mk text.toArray)[m].toNat = c ∧ c = b.toNat := ⟨_, rfl, by rw [← hbx]; rfl⟩
      have HC := Lib.hid hcl
      have HS := Lib.hid n3
      have x1 : ((c : Int) != 91) = true := by simp; omega
      have x2 : ((c : Int) != 93) = true := by simp; omega
      clear hcl hsp hbx n1 n2 n3
      go_wp2_with (go_at_call 16; (refine (space_any _ b _ (by rw [HC.out])).mono ?_; rw [HS.out]; rintro e w2 ⟨rfl, hb2⟩; have HB2 := Lib.hid (then_ HB.out hb2)))
      go_roundw
      case rel => exact ⟨m + 1, by omega, by omega, by go_num, HB2.out⟩
      case measure => simp [intOf]; omega
    · obtain rfl : m = P := by omega
      clear hm2 hlt1 HI1
      rcases Nat.lt_or_ge m text.length with hml | hge
      rotate_left
      · have HQ : Hid (citeN r = 0) := Lib.hid (HNO.out (.inl (by rw [List.getElem?_eq_none hge]; simp)))
        have e2 : ((m : Int) == (text.length : Int)) = true := by simp; omega
        by_cases z1 : m = i + 1
        · have e1 : ((m : Int) == (i : Int) + 1) = true := by simp; omega
          clear z1
          go_wp2_with fail
          go_ret
          exact ⟨by simp [HQ.out], HB.out.mono (Nat.le_of_lt hlt), fun _ => H.out.below HB.out, fun h => absurd HQ.out h⟩
        · have e1 : ((m : Int) == (i : Int) + 1) = false := by rw [beq_eq_false_iff_ne]; omega
          clear z1
          go_wp2_with fail
          go_ret
          exact ⟨by simp [HQ.out], HB.out.mono (Nat.le_of_lt hlt), fun _ => H.out.below HB.out, fun h => absurd HQ.out h⟩
      · have e2 : ((m : Int) == (text.length : Int)) = false := by rw [beq_eq_false_iff_ne]; omega
        obtain ⟨b, hbx⟩ : ∃ b, text[m] = b := ⟨_, rfl⟩
        have HTX : Hid (text[m]? = some b) := Lib.hid (by rw [List.getElem?_eq_getElem hml, hbx])
        have hcp := HE1.out hml
        rw [hbx] at hcp
        obtain ⟨c, hce, hcl⟩ : ∃ c : Nat, (ByteArray.mk text.toArray)[m].toNat = c ∧ c = b.toNat := ⟨_, rfl, by rw [← hbx]; rfl⟩
        clear hbx HE1
        rcases citeP_false hcp with rfl | ⟨n1, rfl⟩ | ⟨n1, n2, n4, n3⟩
        · have HQ : Hid (citeN r = 0) := Lib.hid (HNO.out (.inl (by rw [HTX.out]; decide)))
          have hc : c = 91 := by rw [hcl]; rfl
          subst hc
          clear hcl hcp
          by_cases z1 : m = i + 1
          · have e1 : ((m : Int) == (i : Int) + 1) = true := by simp; omega
            clear z1
            go_wp2_with fail
            go_ret
            exact ⟨by simp [HQ.out], HB.out.mono (Nat.le_of_lt hlt), fun _ => H.out.below HB.out, fun h => absurd HQ.out h⟩
          · have e1 : ((m : Int) == (i : Int) + 1) = false := by rw [beq_eq_false_iff_ne]; omega
            clear z1
            go_wp2_with fail
            go_ret
            exact ⟨by simp [HQ.out], HB.out.mono (Nat.le_of_lt hlt), fun _ => H.out.below HB.out, fun h => absurd HQ.out h⟩
        · have hc : c = 93 := by rw [hcl]; rfl
          subst hc
          clear hcl hcp n1
          by_cases z1 : m = i + 1
          · have HQ : Hid (citeN r = 0) := Lib.hid (HNO.out (.inr z1))
            have e1 : ((m : Int) == (i : Int) + 1) = true := by simp; omega
            clear z1
            go_wp2_with fail
            go_ret
            exact ⟨by simp [HQ.out], HB.out.mono (Nat.le_of_lt hlt), fun _ => H.out.below HB.out, fun h => absurd HQ.out h⟩
          · have e1 : ((m : Int) == (i : Int) + 1) = false := by rw [beq_eq_false_iff_ne]; omega
            have HQ := Lib.hid (HYES.out HTX.out z1)
            have hsl := fun wx => run_slice_string (P := Try.prog) wx 9 ⟨text.toArray⟩ .i64 .i64 ((i : Int) + 1) (m : Int) Try.underlying9 (by omega) (by omega) (by simp [ByteArray.size]; omega)
            have hi1 : ((i : Int) + 1).toNat = i + 1 := by omega
            simp only [Int.toNat_natCast, hi1, cut_text] at hsl
            rw [HQ.out.2.2.2] at hsl
            have w1 : IntKind.i64.wrap ((i : Int) + 1) = (i : Int) + 1 := IntWalk.i64_in _ (by omega)
            have w2 : IntKind.i64.wrap ((m : Int) + 1) = (m : Int) + 1 := IntWalk.i64_in _ (by omega)
            clear z1 hi1
            go_wp2_with fail
            go_region_with (go_at_call 11; (refine (mark_any wo.drew g text pl i ms pv mv 4 ((m : Int) + 1) (r.take (citeN r)) (H.out.below (then_ HB.out (Below.refl _ _).drew)) hn hm).mono ?_; rintro e w4 ⟨rfl, pv', mv', h4, hb4⟩; have H4 := Lib.hid h4; have HB4 := Lib.hid hb4))
            all_goals
              go_wp2_with fail
              go_ret
              have e : ((m + 1 : Nat) : Int) = (m : Int) + 1 := by omega
              exact ⟨by simp [HQ.out.2.1], (HB.out.mono (Nat.le_of_lt hlt)).trans ((Below.refl g wo).drew.trans HB4.out), fun h => absurd h HQ.out.2.1, fun _ => by rw [HQ.out.2.2.1, e]; exact ⟨_, _, H4.out⟩⟩
        · have HQ : Hid (citeN r = 0) := Lib.hid (HNO.out (.inl (by rw [HTX.out]; simpa using n4)))
          have HC := Lib.hid hcl
          have HS := Lib.hid n3
          have x1 : ((c : Int) != 91) = true := by simp; omega
          have x2 : ((c : Int) != 93) = true := by simp; omega
          clear hcl hcp n1 n2 n3 n4
          by_cases z1 : m = i + 1
          · have e1 : ((m : Int) == (i : Int) + 1) = true := by simp; omega
            clear z1
            go_wp2_with (go_at_call 16; (refine (space_any _ b _ (by rw [HC.out])).mono ?_; rw [HS.out]; rintro e w2 ⟨rfl, hb2⟩; have HB2 := Lib.hid (then_ HB.out hb2); have k0' := cellM c0 HB2.out; have k1' := cellM c1 HB2.out))
            go_ret
            exact ⟨by simp [HQ.out], HB2.out.mono (Nat.le_of_lt hlt), fun _ => H.out.below HB2.out, fun h => absurd HQ.out h⟩
          · have e1 : ((m : Int) == (i : Int) + 1) = false := by rw [beq_eq_false_iff_ne]; omega
            clear z1
            go_wp2_with (go_at_call 16; (refine (space_any _ b _ (by rw [HC.out])).mono ?_; rw [HS.out]; rintro e w2 ⟨rfl, hb2⟩; have HB2 := Lib.hid (then_ HB.out hb2); have k0' := cellM c0 HB2.out; have k1' := cellM c1 HB2.out))
            go_ret
            exact ⟨by simp [HQ.out], HB2.out.mono (Nat.le_of_lt hlt), fun _ => H.out.below HB2.out, fun h => absurd HQ.out h⟩
end Go.Proofs.Ythkeggmloajapaa
