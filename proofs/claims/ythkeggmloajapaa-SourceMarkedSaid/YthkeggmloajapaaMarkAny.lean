/- strings.ContainsAny of any bytes, for a short ASCII set. -/
import Derived.Test.YthkeggmloajapaaRuneIdx
import Derived.Shelf.Strings.IndexAnyAll
import Derived.Laws.RangeAny
namespace Go.Proofs.Ythkeggmloajapaa
open Go.RowKit
set_option maxHeartbeats 2000000 in
theorem decode_skips (s : ByteArray) (pos : Nat) : ∀ k, 1 ≤ k → k < (Utf8.decode s pos).2 → pos + k < s.size ∧ 128 ≤ (s.get! (pos + k)).toNat := by
  intro k h1 hk
  simp only [Utf8.decode] at hk
  repeat' (split at hk)
  all_goals simp only [Bool.and_eq_true, decide_eq_true_eq, beq_iff_eq] at *
  all_goals first
    | omega
    | (obtain rfl | rfl | rfl : k = 1 ∨ k = 2 ∨ k = 3 := by omega
       all_goals omega)
theorem get_list (l : List UInt8) (i : Nat) (x : UInt8) (h : l[i]? = some x) : (ByteArray.mk l.toArray).get! i = x := by
  obtain ⟨hi, he⟩ := List.getElem?_eq_some_iff.1 h
  have hi' : i < (ByteArray.mk l.toArray).size := hi
  have h1 := get_at (ByteArray.mk l.toArray) i hi'
  rw [Nat.add_zero] at h1
  rw [h1, ← he]
  rfl
/-- the bytes that a decoded rune takes, all of them 128 and up, are in no ASCII set -/
theorem noany_skip {s chars : List UInt8} {i : Nat} (hc : ∀ b ∈ chars, b.toNat < 128) (h : Lib.NoAny s chars i) (hi : i < s.length) (h0 : chars.contains s[i] = false) : Lib.NoAny s chars (i + (Utf8.decode ⟨s.toArray⟩ i).2) := fun j b hj hb => by
  by_cases h1 : j < i
  · exact h j b h1 hb
  · by_cases h2 : j = i
    · subst h2
      rw [List.getElem?_eq_getElem hi] at hb
      cases hb
      exact h0
    · obtain ⟨_, h3⟩ := decode_skips ⟨s.toArray⟩ i (j - i) (by omega) (by omega)
      rw [show i + (j - i) = j by omega, get_list s j b hb] at h3
      cases h4 : chars.contains b with
      | false => rfl
      | true =>
        have := hc b (by simpa using h4)
        omega
theorem lt_heap {w : World} {k : Nat} {o : Obj} (h : w.heap[k]? = some o) : k < w.heap.size := by
  rcases Nat.lt_or_ge k w.heap.size with h1 | h1
  · exact h1
  · rw [Array.getElem?_eq_none h1] at h; cases h
theorem decode_pos (s : ByteArray) (i : Nat) (h : i < s.size) : 1 ≤ (Utf8.decode s i).2 := by
  by_cases ha : (s[i]'h).toNat < 128
  · rw [decode_ascii s i h ha]; exact Nat.le_refl _
  · exact (decode_high s i h (by omega)).2
set_option maxHeartbeats 2000000 in
set_option maxRecDepth 100000 in
theorem iany_short (w : World) (s chars : List UInt8) (hc : ∀ b ∈ chars, b.toNat < 128) (h4 : 4 ≤ chars.length) (h9 : chars.length ≤ 9) (h8 : s.length ≤ 8) :
    Calls Try.prog 34 #[.string ⟨s.toArray⟩, .string ⟨chars.toArray⟩] w fun e w' => e = .returned (.int .i64 (Lib.indexAny s chars)) ∧ Below w.heap.size w w' := by
  have HC := Lib.hid hc
  clear hc
  have hemp : chars.isEmpty = false := by
    match chars, h4 with
    | _ :: _, _ => rfl
  have hn1 : (((ByteArray.mk chars.toArray).size : Int) == 1) = false := beq_eq_false_iff_ne.2 (by show ((chars.length : Nat) : Int) ≠ 1; omega)
  have hn1' : (((chars.length : Nat) : Int) == 1) = false := hn1
  have h8z : decide ((8 : Int) < ((ByteArray.mk s.toArray).size : Int)) = false := decide_eq_false (by show ¬ (8 : Int) < ((s.length : Nat) : Int); omega)
  have h8z' : decide ((8 : Int) < ((s.length : Nat) : Int)) = false := h8z
  go_enter Try.func34, Try.ntmps34
  go_wp2_with (first | (go_at_call 42; (refine (Try.strings_shouldUseASCIISet _ _).mono ?_; rintro e w' ⟨rfl, hw⟩; obtain rfl := hw.symm)) | fail)
  go_loopg [9, 10] s.length (fun g _ _ wx => ∃ i : Nat, s.length ≤ i + g ∧ wx.heap[w.heap.size]? = some (.stringIter ⟨s.toArray⟩ i) ∧ Below w.heap.size w wx ∧ Hid (Lib.NoAny s chars i))
  case atStart => exact ⟨0, by omega, World.iter_heap w _ 0, (Below.refl _ w).alloc (Nat.le_refl _) _, Lib.hid (Lib.NoAny.zero _ _)⟩
  case round =>
    obtain ⟨i, hig, hit, hbw, HN⟩ := hrel
    by_cases hi : i < (ByteArray.mk s.toArray).size
    · have hi' : i < s.length := hi
      obtain ⟨g, rfl⟩ : ∃ g, gk = g + 1 := ⟨gk - 1, by omega⟩
      have hnx : ∀ ty, (Instr.next (.pointer (some ⟨w.heap.size, 0, none⟩)) true ty).run Try.prog wr = _ := fun ty => Lib.run_next_any_at wr w.heap.size ⟨s.toArray⟩ i ty hit hi
      obtain ⟨x, hx⟩ : ∃ x : UInt8, s[i] = x := ⟨_, rfl⟩
      have Hx : Hid (s[i]? = some x) := Lib.hid (by rw [← hx]; exact List.getElem?_eq_getElem hi')
      have HS : chars.contains x = false → Lib.NoAny s chars (i + (Utf8.decode ⟨s.toArray⟩ i).2) := fun h => noany_skip HC.out HN.out hi' (by rw [hx]; exact h)
      have hp := decode_pos ⟨s.toArray⟩ i hi
      have hgx : (ByteArray.mk s.toArray)[i]'hi = x := by rw [← hx]; rfl
      obtain ⟨R, hR⟩ : ∃ R, (Utf8.decode ⟨s.toArray⟩ i).1 = R := ⟨_, rfl⟩
      obtain ⟨K, hK⟩ : ∃ K, (Utf8.decode ⟨s.toArray⟩ i).2 = K := ⟨_, rfl⟩
      have hR1 : x.toNat < 128 → R = x.toNat := fun h => by rw [← hR, decode_ascii ⟨s.toArray⟩ i hi (by rw [hgx]; exact h), hgx]
      have hR2 : 128 ≤ x.toNat → 128 ≤ R := fun h => by rw [← hR]; exact (decode_high ⟨s.toArray⟩ i hi (by rw [hgx]; exact h)).1
      rw [hK] at HS hp hnx
      rw [hR] at hnx
      have HNS := Lib.hid HS
      have hit2 := Lib.iterAt_heap wr w.heap.size ⟨s.toArray⟩ i (i + K) hit
      have hbw2 := Lib.below_iterAt hbw (k := w.heap.size) (Nat.le_refl _) ⟨s.toArray⟩ (i + K)
      obtain ⟨W, hWd⟩ : ∃ W, wr.iterAt w.heap.size ⟨s.toArray⟩ (i + K) = W := ⟨_, rfl⟩
      rw [hWd] at hnx hit2 hbw2
      clear hR hK hWd hgx hx HS
      by_cases ha : x.toNat < 128
      · obtain rfl := hR1 ha
        clear hR1 hR2
        have hcon := Lib.contains_iff_indexByte chars x
        have hback : ((x.toNat : Int)).toNat.toUInt8 = x := by simp
        cases hin : chars.contains x
        · rw [hin] at hcon
          have hlt : ¬ ((0 : Int) ≤ Lib.indexByte chars x) := of_decide_eq_false hcon.symm
          clear hcon
          have HI := Lib.hid hin
          clear hin
          go_wp2_with (go_at_call 41; (refine (Try.strings_IndexRune_ascii _ _ _ (by omega) (by omega)).mono ?_; rintro e w' ⟨rfl, hw⟩; rw [hw, hback]))
          go_roundg g
          case measure => omega
          case rel => exact ⟨i + K, by omega, hit2, hbw2, Lib.hid (HNS.out HI.out)⟩
        · rw [hin] at hcon
          have hge : (0 : Int) ≤ Lib.indexByte chars x := of_decide_eq_true hcon.symm
          clear hcon
          have HI := Lib.hid hin
          clear hin
          go_wp2_with (go_at_call 41; (refine (Try.strings_IndexRune_ascii _ _ _ (by omega) (by omega)).mono ?_; rintro e w' ⟨rfl, hw⟩; rw [hw, hback]))
          go_ret
          exact ⟨by rw [Lib.indexAny_hit HN.out Hx.out HI.out]; rfl, hbw2⟩
      · have hr := hR2 (by omega)
        clear hR1 hR2
        have hin : Hid (chars.contains x = false) := Lib.hid (by
          cases h : chars.contains x with
          | false => rfl
          | true => exact absurd (HC.out x (by simpa using h)) ha)
        go_wp2_with (go_at_call 41; (refine (indexRune_high _ chars R hr h4 h9 HC.out).mono ?_; rintro e w2 ⟨rfl, hb2⟩))
        go_roundg g
        case measure => omega
        case rel => exact ⟨i + K, by omega, (hb2.block _ (lt_heap hit2)).trans hit2, then_ hbw2 hb2, Lib.hid (HNS.out hin.out)⟩
    · have hi' : ¬ i < s.length := hi
      have hnx : ∀ ty, (Instr.next (.pointer (some ⟨w.heap.size, 0, none⟩)) true ty).run Try.prog wr = _ := fun ty => Lib.run_next_end_at wr w.heap.size ⟨s.toArray⟩ i ty hit hi
      go_wp2
      go_ret
      exact ⟨by rw [Lib.indexAny_none (fun j b hj hb => HN.out j b (by omega) hb)]; rfl, hbw⟩
theorem iany_any (w : World) (s chars : List UInt8) (hc : ∀ b ∈ chars, b.toNat < 128) (h4 : 4 ≤ chars.length) (h9 : chars.length ≤ 9) (hs : s.length ≤ 1000000) :
    Calls Try.prog 34 #[.string ⟨s.toArray⟩, .string ⟨chars.toArray⟩] w fun e w' => e = .returned (.int .i64 (Lib.indexAny s chars)) ∧ Below w.heap.size w w' := by
  by_cases h8 : s.length ≤ 8
  · exact iany_short w s chars hc h4 h9 h8
  · refine (Try.strings_IndexAny_long (Go.zero_of_info (n := 256) (by kernel_rfl)).1 ⟨s.toArray⟩ ⟨chars.toArray⟩ w (by show 2 ≤ chars.length; omega) (by show 8 < s.length; omega) (by show s.length < _; omega) (by show chars.length < _; omega) (fun j b hb => hc b (List.mem_of_getElem? hb))).mono fun e w' ⟨h1, h2⟩ => ⟨h1, ?_⟩
    rw [h2]
    exact ((Below.refl _ _).alloc (Nat.le_refl _) _).alloc (by simp) _
theorem any_dec : ∀ (s chars : List UInt8), decide (0 ≤ Lib.indexAny s chars) = s.any (fun b => chars.contains b)
  | [], _ => rfl
  | b :: s, chars => by
    have ih := any_dec s chars
    rw [Lib.indexAny, List.any_cons, ← ih]
    cases h : chars.contains b with
    | true => rfl
    | false =>
      have h2 := Lib.indexAny_ge chars s
      rw [Bool.false_or, if_neg (by simp)]
      by_cases h3 : Lib.indexAny s chars = -1
      · rw [h3]; rfl
      · rw [if_neg (by simpa using h3), decide_eq_decide]
        omega
theorem cany_any (w : World) (s chars : List UInt8) (hc : ∀ b ∈ chars, b.toNat < 128) (h4 : 4 ≤ chars.length) (h9 : chars.length ≤ 9) (hs : s.length ≤ 1000000) :
    Calls Try.prog 25 #[.string ⟨s.toArray⟩, .string ⟨chars.toArray⟩] w fun e w' => e = .returned (.bool (s.any (fun b => chars.contains b))) ∧ Below w.heap.size w w' := by
  have HE := Lib.hid (any_dec s chars)
  go_enter Try.func25, Try.ntmps25
  go_wp2_with (go_at_call 34; (refine (iany_any _ s chars hc h4 h9 hs).mono ?_; rintro e w2 ⟨rfl, hb2⟩))
  go_ret
  exact ⟨by rw [← HE.out]; rfl, hb2⟩
end Go.Proofs.Ythkeggmloajapaa
