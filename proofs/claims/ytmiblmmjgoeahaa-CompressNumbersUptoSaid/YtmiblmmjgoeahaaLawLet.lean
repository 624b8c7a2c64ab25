/- CompressLetters: Letters of any number and Numbers of any string return what the reference returns. -/
import Derived.Test.YtmiblmmjgoeahaaLetWalk
import Derived.Test.YtmiblmmjgoeahaaNumWalk
import Derived.Test.YtmiblmmjgoeahaaEqInt
import Derived.Test.YtmiblmmjgoeahaaLaw
import Derived.Test.YtmiblmmjgoeahaaBase2
namespace Go.Proofs.Ytmiblmmjgoeahaa
open Go.ChangeShapes Go.WideShapes Go.ChangeAt Go.RowKit
open Go.ChangeMaps (open_string shut_string)
/-- the letters of any number, and the code -/
def lettersR (n : Int) : List UInt8 × Int := if 1 ≤ n ∧ n ≤ 1000000 then (lettersS n.toNat, 0) else ([], 3)
theorem letters_full (n : Int) (w : World) :
    Calls Try.prog 18 #[.int .i64 n] w fun e w' => e = .returned (.tuple #[.string ⟨(lettersR n).1.toArray⟩, .int .i64 (lettersR n).2]) ∧ Below w.heap.size w w' := by
  unfold lettersR
  by_cases h : 1 ≤ n ∧ n ≤ 1000000
  · obtain ⟨m, rfl⟩ := Int.eq_ofNat_of_zero_le (show 0 ≤ n by omega)
    rw [if_pos h]
    exact letters_any m (by omega) (by omega) w
  · rw [if_neg h]
    exact (letters_no n (by omega) w).mono fun e w' ⟨he, hw⟩ => ⟨he, hw ▸ Below.refl _ _⟩
theorem ref_letters_full (n : Int) (w : World) :
    Calls Try.prog 19 #[.int .i64 n] w fun e w' => e = .returned (.tuple #[.string ⟨(lettersR n).1.toArray⟩, .int .i64 (lettersR n).2]) ∧ w = w' := by
  unfold lettersR
  by_cases h : 1 ≤ n ∧ n ≤ 1000000
  · obtain ⟨m, rfl⟩ := Int.eq_ofNat_of_zero_le (show 0 ≤ n by omega)
    rw [if_pos h]
    exact ref_letters_any m (by omega) (by omega) w
  · rw [if_neg h]
    exact ref_letters_no n (by omega) w
theorem equal_int_same {w : World} {v1 v2 : Value} {xs : List Int} (h1 : Ints w v1 xs) (h2 : Ints w v2 xs) :
    Calls Try.prog 22 #[v1, v2] w fun e w' => e = .returned (.bool true) ∧ Below w.heap.size w w' :=
  (equal_int w v1 v2 xs xs h1 h2).mono fun e w' ⟨he, n, hn⟩ => ⟨by rw [he]; simp, by subst hn; exact below_drewN (Below.refl _ _) n⟩
theorem lettersR_121 : lettersR 121 = ([85, 85, 65], 0) := by
  have : lettersS 121 = [85, 85, 65] := by
    unfold lettersS
    rw [lets_pos (by decide), lets_pos (by decide), lets_zero]
    rfl
  unfold lettersR
  rw [if_pos (by decide)]
  show (lettersS 121, (0 : Int)) = _
  rw [this]
theorem numbersS_ex : numbersS [85, 85, 65, 66, 90] = ([121, 2, 0], 0, 0) := by decide +kernel
set_option maxRecDepth 100000 in
theorem awake08 (w : World) : Calls Try.prog 17 #[] w fun e w' => e = .returned (.bool true) ∧ Below w.heap.size w w' := by
  have H1 := letters_full 121 w
  rw [lettersR_121] at H1
  have H2 := fun w' => numbers_any [85, 85, 65, 66, 90] w'
  simp only [numbersS_ex] at H2
  have HH1 := Lib.hid H1
  have HH2 := Lib.hid H2
  clear H1 H2
  go_enter Try.func17, Try.ntmps17
  go_wp2_with (first | (go_at_call 18; refine HH1.out.mono ?_; rintro e w1 ⟨rfl, hb1⟩) | (go_at_call 20; refine (HH2.out _).mono ?_; rintro e w2 ⟨v, rfl, hv, hb2⟩) | (go_at_call 22; refine (equal_int_same (hv.alloc _) (Ints.lit _ _ [121, 2, 0] (by decide))).mono ?_; rintro e w3 ⟨rfl, hb3⟩))
  go_ret
  exact ⟨rfl, then_ (new_ (then_ hb1 hb2) _) hb3⟩
theorem law_letters (n : Int) (s : List UInt8) (w : World) (hs : s.length ≤ maxLen) :
    Calls Try.prog 3 #[.int .i64 n, .string ⟨s.toArray⟩] w fun e w' => e = .returned (.bool true) ∧ Below w.heap.size w w' := by
  unfold maxLen at hs
  by_cases h1 : 2000 < s.length ∧ s.length ≤ 40000
  · obtain ⟨h1, h2⟩ := h1
    have g1 : decide ((2000 : Int) < (s.length : Int)) = true := by simp; omega
    have g2 : decide ((s.length : Int) ≤ 40000) = true := by simp; omega
    go_enter Try.func3, Try.ntmps3
    go_wp2_with (go_at_call 17; refine (awake08 _).mono ?_; rintro e w1 ⟨rfl, hb1⟩)
    go_ret
    exact ⟨rfl, hb1⟩
  · have hcase : s.length ≤ 2000 ∨ 40000 < s.length := by omega
    clear h1
    have g12 : (decide ((2000 : Int) < (s.length : Int)) && decide ((s.length : Int) ≤ 40000)) = false := by
      rw [Bool.and_eq_false_iff]; simp; omega
    rcases hcase with hc | hc
    all_goals
      clear g12
      go_enter Try.func3, Try.ntmps3
      go_wp2_with (first | (go_at_call 18; refine (letters_full _ _).mono ?_; rintro e w1 ⟨rfl, hb1⟩) | (go_at_call 19; refine (ref_letters_full _ _).mono ?_; rintro e w1' ⟨rfl, rfl⟩) | (go_at_call 20; refine (numbers_any _ _).mono ?_; rintro e w2 ⟨v, rfl, hv, hb2⟩) | (go_at_call 21; refine (ref_numbers _ _).mono ?_; rintro e w3 ⟨v', rfl, hv', hb3⟩) | (go_at_call 22; refine (equal_int_same (hv.below hb3) hv').mono ?_; rintro e w4 ⟨rfl, hb4⟩) | (go_at_call 17; refine (awake08 _).mono ?_; rintro e w5 ⟨rfl, hb5⟩))
      go_ret
      exact ⟨rfl, then_ (then_ (then_ (then_ hb1 hb2) hb3) hb4) hb5⟩

namespace compressLetters
theorem isLaw : IsLaw Rows.compressLettersSpec 2 := ⟨rfl, fun H ds hd => by
  match ds, hd with
  | [d1, d2], _ => exact ⟨rfl, rfl, rfl⟩⟩
set_option maxRecDepth 100000 in
theorem walk : LawWalk 3 Try.f3.params.toList fun _ _ => True := by
  intro H enc W base args ds before hval hA hlt hsz _
  rw [Try.params3] at hA hval
  obtain ⟨v0, vs0, d0, ds0, p0, q0, hargs, rfl, rfl, h0, r0⟩ := trodAll_cons hA
  obtain ⟨v1, vs1, d1, ds1, p1, q1, rfl, rfl, rfl, h1, r1⟩ := trodAll_cons r0
  obtain ⟨rfl, rfl, rfl⟩ := trodAll_nil r1
  obtain rfl : args = #[v0, v1] := by cases args; simp_all
  obtain ⟨a0, rfl, rfl, rfl, w0⟩ := open_int Try.underlying3 (hval 0 3 v0 rfl rfl) h0
  obtain ⟨a1, rfl, rfl, rfl, w1⟩ := open_string Try.underlying9 (hval 1 9 v1 rfl rfl) h1
  exact law_letters a0 a1.data.toList W (by simpa using w1)
set_option maxRecDepth 100000 in
theorem lifted (os : Os) (started : os.Started) (H : Type) (enc : TypeId × Value → H) :
    ReturnsInHanded {} Try.checked os 3 .any (Rows.compressLettersSpec.pre6 enc Try.prog Try.f3 [] false) (Rows.compressLettersSpec.post enc Try.prog Try.f3 false true false false) :=
  law_returns started (by kernel_rfl) Try.func3 isLaw rfl rfl (by rw [Try.params3]; intro t ht; simp at ht; rcases ht with rfl | rfl <;> exact ⟨by kernel_rfl, of_decide_eq_true (by kernel_rfl)⟩)
    (ChangeSpec.witness6 (enc := enc) (C := Try.checked) false ⟨#[], #[.int .i64 0, .string ByteArray.empty], []⟩ 8 (by kernel_rfl) (by kernel_rfl) (by kernel_rfl) (by kernel_rfl)) walk
/-- the statement -/
theorem proved : Rows.CompressLettersSaid :=
  OpenClaim.holds_of_wide 3 Try.f3 rfl rfl rfl rfl rfl rfl rfl ⟨rfl, rfl, rfl, rfl, rfl⟩ rfl rfl rfl rfl rfl (by kernel_rfl) Try.func3 (by kernel_rfl)
    (of_decide_eq_true (by kernel_rfl)) (by unfold Func.isWrapper; first | (rw [if_pos (by decide +kernel)]; kernel_rfl) | (rw [if_neg (by decide +kernel)]; exact ⟨rfl, rfl⟩))
    (fun os started H enc _ => lifted os started H enc)
#print axioms proved
end compressLetters
end Go.Proofs.Ytmiblmmjgoeahaa
