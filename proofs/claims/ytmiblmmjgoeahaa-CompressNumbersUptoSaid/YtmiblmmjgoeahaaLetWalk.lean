/- The two functions Letters: each returns the letters of the number. -/
import Derived.Test.YtmiblmmjgoeahaaBase
import Derived.Test.YtmiblmmjgoeahaaLetPlain
namespace Go.Proofs.Ytmiblmmjgoeahaa
open Go.RowKit
theorem enc_ascii (n : Nat) (h : n < 128) : Utf8.encode (n : Int) = ⟨#[UInt8.ofNat n]⟩ := by
  unfold Utf8.encode
  have h1 : Utf8.valid (n : Int) = true := by unfold Utf8.valid; simp; omega
  simp [h1]
  intro h2; omega
theorem enc_at (m : Nat) (b : Nat) (i : Int) (h : i = ((b + m : Nat) : Int)) (hb : b + m < 128) : Utf8.encode i = ⟨#[byteAt b m]⟩ := by
  rw [h]; exact enc_ascii _ hb
theorem one_append (b : UInt8) (l : List UInt8) : (ByteArray.mk #[b] ++ ByteArray.mk l.toArray) = ByteArray.mk (b :: l).toArray := by
  rw [show (#[b] : Array UInt8) = [b].toArray from rfl, ByteArray.mk_append_mk]; rfl
theorem ret_str {a b : List UInt8} {v : Value} (h : a = b) : Ending.returned (.tuple #[.string ⟨a.toArray⟩, v]) = .returned (.tuple #[.string ⟨b.toArray⟩, v]) := by rw [h]
theorem ref_letters_no (n : Int) (h : n < 1 ∨ 1000000 < n) (w : World) :
    Calls Try.prog 19 #[.int .i64 n] w fun e w' => e = .returned (.tuple #[.string ⟨#[]⟩, .int .i64 3]) ∧ w = w' := by
  rcases h with h | h
  · go_enter Try.func19, Try.ntmps19
    go_wp2
    go_ret2
    exact ⟨rfl, rfl⟩
  · have g1 : decide (n < 1) = false := by simp; omega
    go_enter Try.func19, Try.ntmps19
    go_wp2
    go_ret2
    exact ⟨rfl, rfl⟩
theorem letters_no (n : Int) (h : n < 1 ∨ 1000000 < n) (w : World) :
    Calls Try.prog 18 #[.int .i64 n] w fun e w' => e = .returned (.tuple #[.string ⟨#[]⟩, .int .i64 3]) ∧ w = w' := by
  rcases h with h | h
  · go_enter Try.func18, Try.ntmps18
    go_wp2
    go_ret2
    exact ⟨rfl, rfl⟩
  · have g1 : decide (n < 1) = false := by simp; omega
    go_enter Try.func18, Try.ntmps18
    go_wp2
    go_ret2
    exact ⟨rfl, rfl⟩
theorem ref_letters_any (n : Nat) (h1 : 1 ≤ n) (h2 : n ≤ 1000000) (w : World) :
    Calls Try.prog 19 #[.int .i64 n] w fun e w' => e = .returned (.tuple #[.string ⟨(lettersS n).toArray⟩, .int .i64 0]) ∧ w = w' := by
  have g1 : decide ((n : Int) < 1) = false := by simp; omega
  have g2 : decide (1000000 < (n : Int)) = false := by simp; omega
  go_enter Try.func19, Try.ntmps19
  go_wp2
  go_loop [4, 5] (fun s r => ∃ (r' : Nat) (l : List UInt8), r' ≤ 50000 ∧ r = .int .i64 r' ∧ s = .string ⟨l.toArray⟩ ∧ lets r' ++ l = lettersS n ∧ l.length ≤ 1000000 - r') (fun _ r => (intOf r).toNat)
  case atStart =>
    exact ⟨(n - 1) / 20, [byteAt 65 ((n - 1) % 20)], by omega, congrArg _ (by omega), by rw [enc_at ((n - 1) % 20) 65 _ (by omega) (by omega)], rfl, by simp; omega⟩
  case round =>
    obtain ⟨r', l, hr, rfl, rfl, he, hl⟩ := hrel
    have H := Lib.hid he
    clear he
    by_cases hr0 : r' = 0
    · subst hr0
      go_wp2
      go_ret2
      exact ⟨ret_str (by have := H.out; rwa [lets_zero, List.nil_append] at this), rfl⟩
    · have hz : Utf8.encode (85 + ((r' : Int) - 1) % 5) = ⟨#[byteAt 85 ((r' - 1) % 5)]⟩ := enc_at ((r' - 1) % 5) 85 _ (by omega) (by omega)
      have hq : ¬ 9223372036854775807 < 1 + l.length := by omega
      go_wp2
      go_round
      case rel =>
        exact ⟨(r' - 1) / 5, byteAt 85 ((r' - 1) % 5) :: l, by omega, congrArg _ (by omega), by rw [one_append], by rw [← H.out, lets_pos (r := r') (by omega)]; simp, by simp; omega⟩
      case measure => simp [intOf]; omega
theorem pow_step (r i : Nat) (hi : i ≤ 10) : (r - 1) / 5 * 5 ^ (11 - i) ≤ r * 5 ^ (11 - (i + 1)) := by
  have h : 11 - i = (11 - (i + 1)) + 1 := by omega
  rw [h, Nat.pow_succ, ← Nat.mul_assoc, Nat.mul_right_comm]
  exact Nat.mul_le_mul_right _ (by omega)
set_option maxRecDepth 20000 in
theorem letters_any (n : Nat) (h1 : 1 ≤ n) (h2 : n ≤ 1000000) (w : World) :
    Calls Try.prog 18 #[.int .i64 n] w fun e w' => e = .returned (.tuple #[.string ⟨(lettersS n).toArray⟩, .int .i64 0]) ∧ Below w.heap.size w w' := by
  have g1 : decide ((n : Int) < 1) = false := by simp; omega
  have g2 : decide (1000000 < (n : Int)) = false := by simp; omega
  go_enter Try.func18, Try.ntmps18
  go_wp2
  go_loopw [5, 6] (fun a r wr => ∃ (j r' : Nat) (l : List UInt8) (cs : Array Value), j ≤ 11 ∧ a = .int .i64 j ∧ r = .int .i64 r' ∧ r' ≤ 50000 ∧ r' * 5 ^ (11 - j) ≤ 50000 ∧ lets r' ++ l = lettersS n ∧
    Row wr w.heap.size 153 cs ∧ cs.size = 12 ∧ l.length = 12 - j ∧ cs.toList.drop j = l.map u8 ∧ Below w.heap.size w wr) (fun _ r _ => (intOf r).toNat)
  case atStart =>
    refine ⟨11, (n - 1) / 20, [byteAt 65 ((n - 1) % 20)], _, by omega, rfl, congrArg _ (by omega), by omega, by simp; omega, rfl, Row.new _ _ _, rfl, rfl, ?_, (Below.refl _ _).alloc (Nat.le_refl _) _⟩
    simp [u8]
    rw [byteAt_toNat (by omega)]; omega
  case round =>
    obtain ⟨j, r', l, cs, hj, rfl, rfl, hr5, hr, he, hrow, hsz, hll, hdr, hb⟩ := hrel
    have H := Lib.hid he
    have HD := Lib.hid hdr
    have HS := Lib.hid hsz
    have HL := Lib.hid hll
    have HR := Lib.hid hr
    clear he hdr hsz hll hr
    by_cases hr0 : r' = 0
    · subst hr0
      have hal : Try.prog.arrayLen 153 = 12 := by kernel_rfl
      have hj' : (j : Int) ≤ 12 := by omega
      have hl0 : l = lettersS n := by have := H.out; rwa [lets_zero, List.nil_append] at this
      have hcv : (convert 154 9 (.slice (some ⟨w.heap.size, j, none⟩) (12 - j) (12 - j))).run Try.prog wr = .ok (.string ⟨(lettersS n).toArray⟩) wr := by
        rw [← hl0]
        exact run_str_of_bytes wr _ _ 5 _ _ _ l Try.underlying154 Try.underlying5 Try.underlying9 HL.out (row_bytes hrow HD.out)
      clear hl0
      go_wp2
      go_ret2
      exact ⟨rfl, hb⟩
    · obtain ⟨i, rfl⟩ : ∃ i, j = i + 1 := by
        have := HR.out
        cases j with
        | zero => exact absurd this (by simp; omega)
        | succ i => exact ⟨i, rfl⟩
      obtain ⟨v0, hv0⟩ : ∃ v, cs[i]? = some v := by
        have := HS.out
        exact ⟨_, Array.getElem?_eq_getElem (by omega)⟩
      have hc := hrow.cell hv0
      have hf := hrow.free i
      have hi : (i : Int) < 12 := by omega
      have hal : Try.prog.arrayLen 153 = 12 := by kernel_rfl
      clear hv0
      go_wp2
      go_roundw
      case rel =>
        refine ⟨i, (r' - 1) / 5, byteAt 85 ((r' - 1) % 5) :: l, _, by omega, rfl, congrArg _ (by omega), by omega, ?_, ?_, hrow.set i _, by simp [HS.out], by simp [HL.out]; omega, ?_, hb.setCell (Nat.le_refl _) _⟩
        · exact Nat.le_trans (pow_step r' i (by omega)) HR.out
        · rw [← H.out, lets_pos (r := r') (by omega)]; simp
        · rw [drop_set _ _ _ (by have := HS.out; omega), HD.out, List.map_cons]
          congr 1
          simp only [u8]
          rw [byteAt_toNat (by omega)]
          congr 1
          omega
      case measure => simp [intOf]; omega
end Go.Proofs.Ytmiblmmjgoeahaa
