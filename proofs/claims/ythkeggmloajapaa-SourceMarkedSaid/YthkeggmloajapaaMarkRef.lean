/- The divider of marks: its methods refer and cite. -/
import Derived.Test.YthkeggmloajapaaMarkSp
import Derived.Deep.RegionWith
import Derived.Deep.RegionHeld3
import Derived.Deep.DrawnRows
namespace Go.Proofs.Ythkeggmloajapaa
open Go.RowKit
attribute [local go_sem ↓] Go.wp_at_zero Go.wp_at_succ
theorem cut_text (l : List UInt8) (a b : Nat) : (⟨l.toArray⟩ : ByteArray).extract a b = ⟨((l.drop a).take (b - a)).toArray⟩ := by
  apply ByteArray.ext
  simp [List.extract_eq_take_drop]
theorem span_in {p : UInt8 → Bool} {text : List UInt8} {a m : Nat} (h1 : a ≤ m) (h2 : m < a + ((text.drop a).takeWhile p).length) : ∃ h : m < text.length, p text[m] = true := by
  have h3 := List.takeWhile_prefix p (l := text.drop a)
  obtain ⟨r, hr⟩ := h3
  have hl := congrArg List.length hr
  rw [List.length_append, List.length_drop] at hl
  have hm : m < text.length := by omega
  refine ⟨hm, ?_⟩
  have hk : m - a < ((text.drop a).takeWhile p).length := by omega
  have h4 : ((text.drop a).takeWhile p)[m - a] = text[m] := by
    have h5 : (text.drop a)[m - a]? = some ((text.drop a).takeWhile p)[m - a] := by
      have h6 : (((text.drop a).takeWhile p) ++ r)[m - a]? = some ((text.drop a).takeWhile p)[m - a] := by
        rw [List.getElem?_append_left hk]
        exact List.getElem?_eq_getElem hk
      rw [hr] at h6
      exact h6
    rw [List.getElem?_drop, show a + (m - a) = m by omega, List.getElem?_eq_getElem hm] at h5
    exact (Option.some.inj h5).symm
  rw [← h4]
  exact all_take p _ _ (List.getElem_mem hk)
theorem span_end {p : UInt8 → Bool} {text : List UInt8} {a m : Nat} (hm : m = a + ((text.drop a).takeWhile p).length) (h : m < text.length) : p text[m] = false := by
  refine drop_stop p (text.drop a) _ ?_
  rw [List.drop_drop, ← hm]
  rw [List.head?_drop, List.getElem?_eq_getElem h]
theorem span_le {p : UInt8 → Bool} {text : List UInt8} {a : Nat} (h : a ≤ text.length) : a + ((text.drop a).takeWhile p).length ≤ text.length := by
  have := take_le p (text.drop a)
  rw [List.length_drop] at this
  omega
set_option maxRecDepth 100000 in
set_option maxHeartbeats 4000000 in
theorem refer_any (w : World) (g : Nat) (text pl : List UInt8) (i : Nat) (ms : List MarkD) (pv mv : Value) (h : DivR w g text i pl ms pv mv) (hi : i < text.length) (ht : text.length ≤ 40000) (hn : pl.length ≤ 40000) (hm : ms.length ≤ 40000) (r : List UInt8) (hr : text.drop (i + 1) = r) :
    Calls Try.prog 12 #[.pointer (some ⟨g, 0, none⟩)] w fun e w' => e = .returned (.bool (decide ¬(refW r = 0 ∨ refT r = []))) ∧ Below g w w' ∧
      ((refW r = 0 ∨ refT r = []) → DivR w' g text i pl ms pv mv) ∧ (¬(refW r = 0 ∨ refT r = []) → ∃ pv' mv', DivR w' g text ((i + (1 + refW r + (refT r).length) : Nat) : Int) [] (flatM pl ms ++ [(3, refT r)]) pv' mv') := by
  have H := Lib.hid h
  have hlt := h.row.lt
  obtain ⟨P1, hP1⟩ : ∃ P1, i + 1 + refW r = P1 := ⟨_, rfl⟩
  obtain ⟨P2, hP2⟩ : ∃ P2, P1 + (refT r).length = P2 := ⟨_, rfl⟩
  have h1le : P1 ≤ text.length := by rw [← hP1, ← hr]; exact span_le (p := sp) hi
  have hrT : refT r = (text.drop P1).takeWhile (fun c => !sp c) := by
    unfold refT
    rw [← hP1, ← hr, List.drop_drop]
  have h2le : P2 ≤ text.length := by rw [← hP2, hrT]; exact span_le h1le
  have HI1 : Hid (∀ m, i + 1 ≤ m → m < P1 → ∃ h : m < text.length, sp text[m] = true) := Lib.hid fun m a b => span_in a (by rw [← hP1, ← hr] at b; exact b)
  have HE1 : Hid (∀ h : P1 < text.length, sp text[P1] = false) := Lib.hid fun h => span_end (a := i + 1) (by rw [← hP1, ← hr]; rfl) h
  have HI2 : Hid (∀ m, P1 ≤ m → m < P2 → ∃ h : m < text.length, sp text[m] = false) := Lib.hid fun m a b => by
    obtain ⟨q1, q2⟩ := span_in (p := fun c => !sp c) (text := text) a (by rw [← hP2, hrT] at b; exact b)
    exact ⟨q1, by simpa using q2⟩
  have HE2 : Hid (∀ h : P2 < text.length, sp text[P2] = true) := Lib.hid fun h => by
    have := span_end (p := fun c => !sp c) (text := text) (a := P1) (by rw [← hP2, hrT]) h
    simpa using this
  have HT : Hid ((text.drop P1).take (P2 - P1) = refT r) := Lib.hid (by
    rw [← hP2, show P1 + (refT r).length - P1 = (refT r).length by omega, hrT]
    exact (List.prefix_iff_eq_take.1 (List.takeWhile_prefix _)).symm)
  have hle1 : i + 1 ≤ P1 := by omega
  have hle2 : P1 ≤ P2 := by omega
  have HZ : Hid ((refW r = 0 ∨ refT r = []) ↔ (P1 = i + 1 ∨ P2 = P1)) := Lib.hid ⟨fun h => h.imp (fun h => by omega) (fun h => by rw [h] at hP2; simpa using hP2.symm), fun h => h.imp (fun h => by omega) (fun h => List.eq_nil_of_length_eq_zero (by omega))⟩
  have HP : Hid (i + (1 + refW r + (refT r).length) = P2) := Lib.hid (by omega)
  clear hP1 hP2 hrT hr
  have c0 := h.row.cell (i := 0) (v := .string ⟨text.toArray⟩) rfl
  have c1 := h.row.cell (i := 1) (v := .int .i64 i) rfl
  clear h
  go_enter Try.func12, Try.ntmps12
  go_wp2_with fail
  go_loopw [3] (fun jv wr => ∃ m : Nat, i + 1 ≤ m ∧ m ≤ P1 ∧ jv = .int .i64 m ∧ Below w.heap.size w wr) (fun jv _ => P1 - (intOf jv).toNat)
  case atStart => exact ⟨i + 1, Nat.le_refl _, hle1, by go_num, Below.refl _ _⟩
  case round =>
    obtain ⟨wo, rfl⟩ : ∃ wo, wo = wr := ⟨_, rfl⟩
    obtain ⟨m, hm1, hm2, rfl, hb⟩ := hrel
    have HB := Lib.hid hb
    have k0 := cellM c0 hb
    clear hb
    by_cases hlt1 : m < P1
    · obtain ⟨hml, hsp⟩ := HI1.out m hm1 hlt1
      obtain ⟨b, hbx⟩ : ∃ b, text[m] = b := ⟨_, rfl⟩
      rw [hbx] at hsp
      obtain ⟨c, hce, hcl⟩ : ∃ c : Nat, (ByteArray.mk text.toArray)[m].toNat = c ∧ c = b.toNat := ⟨_, rfl, by rw [← hbx]; rfl⟩
      have HC := Lib.hid hcl
      have HS := Lib.hid hsp
      clear hcl hsp hbx
      go_wp2_with (go_at_call 16; (refine (space_any _ b _ (by rw [HC.out])).mono ?_; rw [HS.out]; rintro e w2 ⟨rfl, hb2⟩; have HB2 := Lib.hid (then_ HB.out hb2)))
      go_roundw
      case rel => exact ⟨m + 1, by omega, by omega, by go_num, HB2.out⟩
      case measure => simp [intOf]; omega
    · obtain rfl : m = P1 := by omega
      clear hm1 hm2 hlt1 HI1
      have step : (∃ b, ∃ hx : m < text.length, text[m] = b ∧ sp b = false) ∨ text.length ≤ m := by
        rcases Nat.lt_or_ge m text.length with hx | hx
        · exact .inl ⟨_, hx, rfl, HE1.out hx⟩
        · exact .inr hx
      clear HE1
      rcases step with ⟨b, hml, hbx, hsp⟩ | hge
      rotate_left
      · obtain ⟨w2, rfl⟩ : ∃ w2, w2 = wo := ⟨_, rfl⟩
        have HB2 := HB
        go_wp2_with fail
        go_loopw [4] (fun jv wr => ∃ n : Nat, m ≤ n ∧ n ≤ P2 ∧ jv = .int .i64 n ∧ Below w.heap.size w wr) (fun jv _ => P2 - (intOf jv).toNat)
        case atStart => exact ⟨m, Nat.le_refl _, hle2, rfl, HB2.out⟩
        case round =>
          obtain ⟨wp, rfl⟩ : ∃ wp, wp = wr := ⟨_, rfl⟩
          obtain ⟨n, hn1, hn2, rfl, hbn⟩ := hrel
          have HBn := Lib.hid hbn
          have k0 := cellM c0 hbn
          have k1 := cellM c1 hbn
          clear hbn
          obtain rfl : n = P2 := by omega
          have hgn : text.length ≤ n := by omega
          clear hn2 HI2 HE2
          obtain ⟨w3, rfl⟩ : ∃ w3, w3 = wp := ⟨_, rfl⟩
          have HB3 := HBn
          by_cases z1 : m = i + 1
          · have e1 : ((m : Int) == (i : Int) + 1) = true := by simp; omega
            have HQ : Hid (refW r = 0 ∨ refT r = []) := Lib.hid (HZ.out.2 (.inl z1))
            clear z1
            go_wp2_with fail
            go_ret
            exact ⟨by simp [HQ.out], HB3.out.mono (Nat.le_of_lt hlt), fun _ => H.out.below HB3.out, fun h => absurd HQ.out h⟩
          · have e1 : ((m : Int) == (i : Int) + 1) = false := by rw [beq_eq_false_iff_ne]; omega
            by_cases z2 : n = m
            · have e2 : ((n : Int) == (m : Int)) = true := by simp; omega
              have HQ : Hid (refW r = 0 ∨ refT r = []) := Lib.hid (HZ.out.2 (.inr z2))
              clear z1 z2
              go_wp2_with fail
              go_ret
              exact ⟨by simp [HQ.out], HB3.out.mono (Nat.le_of_lt hlt), fun _ => H.out.below HB3.out, fun h => absurd HQ.out h⟩
            · have e2 : ((n : Int) == (m : Int)) = false := by rw [beq_eq_false_iff_ne]; omega
              have HQ : Hid (¬(refW r = 0 ∨ refT r = [])) := Lib.hid (fun h => (HZ.out.1 h).elim z1 z2)
              have hsl := fun wx => run_slice_string (P := Try.prog) wx 9 ⟨text.toArray⟩ .i64 .i64 (m : Int) (n : Int) Try.underlying9 (by omega) (by omega) (by simp [ByteArray.size]; omega)
              simp only [Int.toNat_natCast, cut_text] at hsl
              rw [HT.out] at hsl
              clear z1 z2
              go_wp2_with (go_at_call 11; (refine (mark_any w3 g text pl i ms pv mv 3 n (refT r) (H.out.below HB3.out) hn hm).mono ?_; rintro e w4 ⟨rfl, pv', mv', h4, hb4⟩; have H4 := Lib.hid h4; have HB4 := Lib.hid hb4))
              go_ret
              exact ⟨by simp [HQ.out], (HB3.out.mono (Nat.le_of_lt hlt)).trans HB4.out, fun h => absurd h HQ.out, fun _ => by rw [HP.out]; exact ⟨_, _, H4.out⟩⟩
      · obtain ⟨c, hce, hcl⟩ : ∃ c : Nat, (ByteArray.mk text.toArray)[m].toNat = c ∧ c = b.toNat := ⟨_, rfl, by rw [← hbx]; rfl⟩
        have HC := Lib.hid hcl
        have HS := Lib.hid hsp
        clear hcl hsp hbx
        go_wp2_with (go_at_call 16; (refine (space_any _ b _ (by rw [HC.out])).mono ?_; rw [HS.out]; rintro e w2 ⟨rfl, hb2⟩; have HB2 := Lib.hid (then_ HB.out hb2)))
        go_loopw [4] (fun jv wr => ∃ n : Nat, m ≤ n ∧ n ≤ P2 ∧ jv = .int .i64 n ∧ Below w.heap.size w wr) (fun jv _ => P2 - (intOf jv).toNat)
        case atStart => exact ⟨m, Nat.le_refl _, hle2, rfl, HB2.out⟩
        case round =>
          obtain ⟨wp, rfl⟩ : ∃ wp, wp = wr := ⟨_, rfl⟩
          obtain ⟨n, hn1, hn2, rfl, hbn⟩ := hrel
          have HBn := Lib.hid hbn
          have k0 := cellM c0 hbn
          have k1 := cellM c1 hbn
          clear hbn
          by_cases hlt2 : n < P2
          · obtain ⟨hnl, hsp⟩ := HI2.out n hn1 hlt2
            obtain ⟨b, hbx⟩ : ∃ b, text[n] = b := ⟨_, rfl⟩
            rw [hbx] at hsp
            obtain ⟨c, hce, hcl⟩ : ∃ c : Nat, (ByteArray.mk text.toArray)[n].toNat = c ∧ c = b.toNat := ⟨_, rfl, by rw [← hbx]; rfl⟩
            have HC := Lib.hid hcl
            have HS := Lib.hid hsp
            clear hcl hsp hbx
            go_wp2_with (go_at_call 16; (refine (space_any _ b _ (by rw [HC.out])).mono ?_; rw [HS.out]; rintro e w3 ⟨rfl, hb3⟩; have HB3 := Lib.hid (then_ HBn.out hb3); have k0' := cellM c0 HB3.out; have k1' := cellM c1 HB3.out))
            go_roundw
            case rel => exact ⟨n + 1, by omega, by omega, by go_num, HB3.out⟩
            case measure => simp [intOf]; omega
          · obtain rfl : n = P2 := by omega
            clear hn2 hlt2 HI2
            have step : (∃ b, ∃ hx : n < text.length, text[n] = b ∧ sp b = true) ∨ text.length ≤ n := by
              rcases Nat.lt_or_ge n text.length with hx | hx
              · exact .inl ⟨_, hx, rfl, HE2.out hx⟩
              · exact .inr hx
            clear HE2
            rcases step with ⟨b, hnl, hbx, hsp⟩ | hgn
            rotate_left
            · obtain ⟨w3, rfl⟩ : ∃ w3, w3 = wp := ⟨_, rfl⟩
              have HB3 := HBn
              by_cases z1 : m = i + 1
              · have e1 : ((m : Int) == (i : Int) + 1) = true := by simp; omega
                have HQ : Hid (refW r = 0 ∨ refT r = []) := Lib.hid (HZ.out.2 (.inl z1))
                clear z1
                go_wp2_with fail
                go_ret
                exact ⟨by simp [HQ.out], HB3.out.mono (Nat.le_of_lt hlt), fun _ => H.out.below HB3.out, fun h => absurd HQ.out h⟩
              · have e1 : ((m : Int) == (i : Int) + 1) = false := by rw [beq_eq_false_iff_ne]; omega
                by_cases z2 : n = m
                · have e2 : ((n : Int) == (m : Int)) = true := by simp; omega
                  have HQ : Hid (refW r = 0 ∨ refT r = []) := Lib.hid (HZ.out.2 (.inr z2))
                  clear z1 z2
                  go_wp2_with fail
                  go_ret
                  exact ⟨by simp [HQ.out], HB3.out.mono (Nat.le_of_lt hlt), fun _ => H.out.below HB3.out, fun h => absurd HQ.out h⟩
                · have e2 : ((n : Int) == (m : Int)) = false := by rw [beq_eq_false_iff_ne]; omega
                  have HQ : Hid (¬(refW r = 0 ∨ refT r = [])) := Lib.hid (fun h => (HZ.out.1 h).elim z1 z2)
                  have hsl := fun wx => run_slice_string (P := Try.prog) wx 9 ⟨text.toArray⟩ .i64 .i64 (m : Int) (n : Int) Try.underlying9 (by omega) (by omega) (by simp [ByteArray.size]; omega)
                  simp only [Int.toNat_natCast, cut_text] at hsl
                  rw [HT.out] at hsl
                  clear z1 z2
                  go_wp2_with (go_at_call 11; (refine (mark_any w3 g text pl i ms pv mv 3 n (refT r) (H.out.below HB3.out) hn hm).mono ?_; rintro e w4 ⟨rfl, pv', mv', h4, hb4⟩; have H4 := Lib.hid h4; have HB4 := Lib.hid hb4))
                  go_ret
                  exact ⟨by simp [HQ.out], (HB3.out.mono (Nat.le_of_lt hlt)).trans HB4.out, fun h => absurd h HQ.out, fun _ => by rw [HP.out]; exact ⟨_, _, H4.out⟩⟩
            · obtain ⟨c, hce, hcl⟩ : ∃ c : Nat, (ByteArray.mk text.toArray)[n].toNat = c ∧ c = b.toNat := ⟨_, rfl, by rw [← hbx]; rfl⟩
              have HC := Lib.hid hcl
              have HS := Lib.hid hsp
              clear hcl hsp hbx
              by_cases z1 : m = i + 1
              · have e1 : ((m : Int) == (i : Int) + 1) = true := by simp; omega
                have HQ : Hid (refW r = 0 ∨ refT r = []) := Lib.hid (HZ.out.2 (.inl z1))
                clear z1
                go_wp2_with (go_at_call 16; (refine (space_any _ b _ (by rw [HC.out])).mono ?_; rw [HS.out]; rintro e w3 ⟨rfl, hb3⟩; have HB3 := Lib.hid (then_ HBn.out hb3); have k0' := cellM c0 HB3.out; have k1' := cellM c1 HB3.out))
                go_ret
                exact ⟨by simp [HQ.out], HB3.out.mono (Nat.le_of_lt hlt), fun _ => H.out.below HB3.out, fun h => absurd HQ.out h⟩
              · have e1 : ((m : Int) == (i : Int) + 1) = false := by rw [beq_eq_false_iff_ne]; omega
                by_cases z2 : n = m
                · have e2 : ((n : Int) == (m : Int)) = true := by simp; omega
                  have HQ : Hid (refW r = 0 ∨ refT r = []) := Lib.hid (HZ.out.2 (.inr z2))
                  clear z1 z2
                  go_wp2_with (go_at_call 16; (refine (space_any _ b _ (by rw [HC.out])).mono ?_; rw [HS.out]; rintro e w3 ⟨rfl, hb3⟩; have HB3 := Lib.hid (then_ HBn.out hb3); have k0' := cellM c0 HB3.out; have k1' := cellM c1 HB3.out))
                  go_ret
                  exact ⟨by simp [HQ.out], HB3.out.mono (Nat.le_of_lt hlt), fun _ => H.out.below HB3.out, fun h => absurd HQ.out h⟩
                · have e2 : ((n : Int) == (m : Int)) = false := by rw [beq_eq_false_iff_ne]; omega
                  have HQ : Hid (¬(refW r = 0 ∨ refT r = [])) := Lib.hid (fun h => (HZ.out.1 h).elim z1 z2)
                  have hsl := fun wx => run_slice_string (P := Try.prog) wx 9 ⟨text.toArray⟩ .i64 .i64 (m : Int) (n : Int) Try.underlying9 (by omega) (by omega) (by simp [ByteArray.size]; omega)
                  simp only [Int.toNat_natCast, cut_text] at hsl
                  rw [HT.out] at hsl
                  clear z1 z2
                  go_wp2_with (first | (go_at_call 16; (refine (space_any _ b _ (by rw [HC.out])).mono ?_; rw [HS.out]; rintro e w3 ⟨rfl, hb3⟩; have HB3 := Lib.hid (then_ HBn.out hb3); have k0' := cellM c0 HB3.out; have k1' := cellM c1 HB3.out)) | (go_at_call 11; (refine (mark_any w3 g text pl i ms pv mv 3 n (refT r) (H.out.below HB3.out) hn hm).mono ?_; rintro e w4 ⟨rfl, pv', mv', h4, hb4⟩; have H4 := Lib.hid h4; have HB4 := Lib.hid hb4)))
                  go_ret
                  exact ⟨by simp [HQ.out], (HB3.out.mono (Nat.le_of_lt hlt)).trans HB4.out, fun h => absurd h HQ.out, fun _ => by rw [HP.out]; exact ⟨_, _, H4.out⟩⟩
end Go.Proofs.Ythkeggmloajapaa
