/- the table of classes labels: slices.Index and Contains of bytes, token.only, IsLabel -/
import Derived.Test.YthkeggmloajapaaBaseA
import Derived.Test.YthkeggmloajapaaPlainA
import Derived.RegionTactic
section
namespace Go.Proofs.Ythkeggmloajapaa
open Go.RowKit
/-- the table of which the first k cells are laid -/
def tabA (k : Nat) : Array Value := ((List.range 256).map fun j => if j < k then Value.int .u8 (cls j : Nat) else .int .u8 0).toArray
theorem tabA_size (k : Nat) : (tabA k).size = 256 := by simp [tabA]
theorem tabA_at (k j : Nat) (hj : j < 256) : (tabA k)[j]? = some (if j < k then Value.int .u8 (cls j : Nat) else .int .u8 0) := by
  simp [tabA, hj]
theorem tabA_set (k : Nat) (hk : k < 256) (v : Value) (hv : v = .int .u8 (cls k : Nat)) : (tabA k).setIfInBounds k v = tabA (k + 1) := by
  subst hv
  apply Array.ext_getElem?
  intro j
  by_cases hj : j < 256
  · rw [Array.getElem?_setIfInBounds, tabA_at _ _ hj, tabA_at _ _ hj, tabA_size]
    by_cases h1 : k = j
    · subst h1; simp [hk]
    · rw [if_neg h1]
      by_cases h2 : j < k
      · rw [if_pos h2, if_pos (by omega)]
      · rw [if_neg h2, if_neg (by omega)]
  · rw [Array.getElem?_eq_none (by simp [tabA_size]; omega), Array.getElem?_eq_none (by rw [tabA_size]; omega)]
theorem tabA_skip (k : Nat) (hk : k < 256) (hc : cls k = 0) : tabA k = tabA (k + 1) := by
  rw [← tabA_set k hk (.int .u8 0) (by rw [hc]; rfl)]
  apply Array.ext_getElem?
  intro j
  by_cases hj : k = j
  · subst hj
    rw [Array.getElem?_setIfInBounds, tabA_at _ _ hk, tabA_size]; simp [hk]
  · rw [Array.getElem?_setIfInBounds, if_neg hj]
theorem tabA_zero : Try.zeroCells71 = tabA 0 := by kernel_rfl
theorem tab_skip {w w1 : World} {k : Nat} (hk : k < 256) (hr : Row w1 w.heap.size 71 (tabA k)) (hc : cls k = 0) : Row w1 w.heap.size 71 (tabA (k + 1)) := by
  rw [← tabA_skip k hk hc]; exact hr
theorem rel_tab {w w1 : World} {k : Nat} {v : Value} (hk : k < 256) (hr : Row w1 w.heap.size 71 (tabA k)) (hv : v = .int .u8 (cls k : Nat)) : Row (w1.setCell ⟨w.heap.size, k, none⟩ v) w.heap.size 71 (tabA (k + 1)) := by
  rw [← tabA_set k hk v hv]; exact hr.set k v
set_option maxRecDepth 100000 in
set_option maxHeartbeats 4000000 in
theorem classes_any (w : World) : Calls Try.prog 28 #[] w fun e w' => e = .returned (.agg (tabA 256)) ∧ Below w.heap.size w w' := by
  go_enter Try.func28, Try.ntmps28
  go_wp2
  rw [tabA_zero]
  go_loopw [3] (fun i wr => ∃ k : Nat, k ≤ 256 ∧ i = .int .i64 k ∧ Row wr w.heap.size 71 (tabA k) ∧ Below w.heap.size w wr) (fun i _ => 256 - (intOf i).toNat)
  case atStart => exact ⟨0, by omega, rfl, Row.new _ _ _, (Below.refl _ _).alloc (by simp) _⟩
  case round =>
    obtain ⟨k, hk, rfl, hr, hb⟩ := hrel
    have hal : Try.prog.arrayLen 71 = 256 := by kernel_rfl
    by_cases hlt : k < 256
    · obtain ⟨v0, hv0⟩ : ∃ v, (tabA k)[k]? = some v := ⟨_, tabA_at k k hlt⟩
      have hc := hr.cell hv0
      have hf := hr.free k
      clear hv0
      have hk' : (k : Int) < 256 := by omega
      rcases (show (0 ≤ k ∧ k ≤ 8) ∨ (9 ≤ k ∧ k ≤ 10) ∨ (11 ≤ k ∧ k ≤ 11) ∨ (12 ≤ k ∧ k ≤ 13) ∨ (14 ≤ k ∧ k ≤ 31) ∨ (32 ≤ k ∧ k ≤ 32) ∨ (33 ≤ k ∧ k ≤ 35) ∨ (36 ≤ k ∧ k ≤ 36) ∨ (37 ≤ k ∧ k ≤ 44) ∨ (45 ≤ k ∧ k ≤ 45) ∨ (46 ≤ k ∧ k ≤ 46) ∨ (47 ≤ k ∧ k ≤ 47) ∨ (48 ≤ k ∧ k ≤ 57) ∨ (58 ≤ k ∧ k ≤ 64) ∨ (65 ≤ k ∧ k ≤ 90) ∨ (91 ≤ k ∧ k ≤ 94) ∨ (95 ≤ k ∧ k ≤ 95) ∨ (96 ≤ k ∧ k ≤ 96) ∨ (97 ≤ k ∧ k ≤ 122) ∨ (123 ≤ k ∧ k ≤ 126) ∨ (127 ≤ k ∧ k ≤ 255) from by omega) with ⟨a1, a2⟩ | ⟨a1, a2⟩ | ⟨a1, a2⟩ | ⟨a1, a2⟩ | ⟨a1, a2⟩ | ⟨a1, a2⟩ | ⟨a1, a2⟩ | ⟨a1, a2⟩ | ⟨a1, a2⟩ | ⟨a1, a2⟩ | ⟨a1, a2⟩ | ⟨a1, a2⟩ | ⟨a1, a2⟩ | ⟨a1, a2⟩ | ⟨a1, a2⟩ | ⟨a1, a2⟩ | ⟨a1, a2⟩ | ⟨a1, a2⟩ | ⟨a1, a2⟩ | ⟨a1, a2⟩ | ⟨a1, a2⟩
      · have HC := Lib.hid (show cls k = 0 by unfold cls; repeat (first | rw [if_pos (by omega)] | rw [if_neg (by omega)]))
        have b32 : ((k : Int) == 32) = false := by simp; omega
        have b36 : ((k : Int) == 36) = false := by simp; omega
        have b45 : ((k : Int) == 45) = false := by simp; omega
        have b95 : ((k : Int) == 95) = false := by simp; omega
        have b46 : ((k : Int) == 46) = false := by simp; omega
        have b11 : ((k : Int) != 11) = true := by simp; omega
        have g9 : decide (9 ≤ (k : Int)) = false := by simp; omega
        have g48 : decide (48 ≤ (k : Int)) = false := by simp; omega
        have g65 : decide (65 ≤ (k : Int)) = false := by simp; omega
        have g97 : decide (97 ≤ (k : Int)) = false := by simp; omega
        have l13 : decide ((k : Int) ≤ 13) = true := by simp; omega
        have l57 : decide ((k : Int) ≤ 57) = true := by simp; omega
        have l90 : decide ((k : Int) ≤ 90) = true := by simp; omega
        have l122 : decide ((k : Int) ≤ 122) = true := by simp; omega
        have l126 : decide ((k : Int) ≤ 126) = true := by simp; omega
        have s32 : decide (32 < (k : Int)) = false := by simp; omega
        clear a1 a2
        go_wp2
        go_roundw
        case rel => exact ⟨k + 1, by omega, by go_num, tab_skip hlt hr HC.out, hb⟩
        case measure => simp [intOf]; omega
      · have HC := Lib.hid (show cls k = 1 by unfold cls; repeat (first | rw [if_pos (by omega)] | rw [if_neg (by omega)]))
        have b32 : ((k : Int) == 32) = false := by simp; omega
        have b36 : ((k : Int) == 36) = false := by simp; omega
        have b45 : ((k : Int) == 45) = false := by simp; omega
        have b95 : ((k : Int) == 95) = false := by simp; omega
        have b46 : ((k : Int) == 46) = false := by simp; omega
        have b11 : ((k : Int) != 11) = true := by simp; omega
        have g9 : decide (9 ≤ (k : Int)) = true := by simp; omega
        have g48 : decide (48 ≤ (k : Int)) = false := by simp; omega
        have g65 : decide (65 ≤ (k : Int)) = false := by simp; omega
        have g97 : decide (97 ≤ (k : Int)) = false := by simp; omega
        have l13 : decide ((k : Int) ≤ 13) = true := by simp; omega
        have l57 : decide ((k : Int) ≤ 57) = true := by simp; omega
        have l90 : decide ((k : Int) ≤ 90) = true := by simp; omega
        have l122 : decide ((k : Int) ≤ 122) = true := by simp; omega
        have l126 : decide ((k : Int) ≤ 126) = true := by simp; omega
        have s32 : decide (32 < (k : Int)) = false := by simp; omega
        clear a1 a2
        go_wp2
        go_roundw
        case rel => exact ⟨k + 1, by omega, by go_num, rel_tab hlt hr (by rw [HC.out]; rfl), hb.setCell (Nat.le_refl _) _⟩
        case measure => simp [intOf]; omega
      · have HC := Lib.hid (show cls k = 0 by unfold cls; repeat (first | rw [if_pos (by omega)] | rw [if_neg (by omega)]))
        have b32 : ((k : Int) == 32) = false := by simp; omega
        have b36 : ((k : Int) == 36) = false := by simp; omega
        have b45 : ((k : Int) == 45) = false := by simp; omega
        have b95 : ((k : Int) == 95) = false := by simp; omega
        have b46 : ((k : Int) == 46) = false := by simp; omega
        have b11 : ((k : Int) != 11) = false := by simp; omega
        have g9 : decide (9 ≤ (k : Int)) = true := by simp; omega
        have g48 : decide (48 ≤ (k : Int)) = false := by simp; omega
        have g65 : decide (65 ≤ (k : Int)) = false := by simp; omega
        have g97 : decide (97 ≤ (k : Int)) = false := by simp; omega
        have l13 : decide ((k : Int) ≤ 13) = true := by simp; omega
        have l57 : decide ((k : Int) ≤ 57) = true := by simp; omega
        have l90 : decide ((k : Int) ≤ 90) = true := by simp; omega
        have l122 : decide ((k : Int) ≤ 122) = true := by simp; omega
        have l126 : decide ((k : Int) ≤ 126) = true := by simp; omega
        have s32 : decide (32 < (k : Int)) = false := by simp; omega
        clear a1 a2
        go_wp2
        go_roundw
        case rel => exact ⟨k + 1, by omega, by go_num, tab_skip hlt hr HC.out, hb⟩
        case measure => simp [intOf]; omega
      · have HC := Lib.hid (show cls k = 1 by unfold cls; repeat (first | rw [if_pos (by omega)] | rw [if_neg (by omega)]))
        have b32 : ((k : Int) == 32) = false := by simp; omega
        have b36 : ((k : Int) == 36) = false := by simp; omega
        have b45 : ((k : Int) == 45) = false := by simp; omega
        have b95 : ((k : Int) == 95) = false := by simp; omega
        have b46 : ((k : Int) == 46) = false := by simp; omega
        have b11 : ((k : Int) != 11) = true := by simp; omega
        have g9 : decide (9 ≤ (k : Int)) = true := by simp; omega
        have g48 : decide (48 ≤ (k : Int)) = false := by simp; omega
        have g65 : decide (65 ≤ (k : Int)) = false := by simp; omega
        have g97 : decide (97 ≤ (k : Int)) = false := by simp; omega
        have l13 : decide ((k : Int) ≤ 13) = true := by simp; omega
        have l57 : decide ((k : Int) ≤ 57) = true := by simp; omega
        have l90 : decide ((k : Int) ≤ 90) = true := by simp; omega
        have l122 : decide ((k : Int) ≤ 122) = true := by simp; omega
        have l126 : decide ((k : Int) ≤ 126) = true := by simp; omega
        have s32 : decide (32 < (k : Int)) = false := by simp; omega
        clear a1 a2
        go_wp2
        go_roundw
        case rel => exact ⟨k + 1, by omega, by go_num, rel_tab hlt hr (by rw [HC.out]; rfl), hb.setCell (Nat.le_refl _) _⟩
        case measure => simp [intOf]; omega
      · have HC := Lib.hid (show cls k = 0 by unfold cls; repeat (first | rw [if_pos (by omega)] | rw [if_neg (by omega)]))
        have b32 : ((k : Int) == 32) = false := by simp; omega
        have b36 : ((k : Int) == 36) = false := by simp; omega
        have b45 : ((k : Int) == 45) = false := by simp; omega
        have b95 : ((k : Int) == 95) = false := by simp; omega
        have b46 : ((k : Int) == 46) = false := by simp; omega
        have b11 : ((k : Int) != 11) = true := by simp; omega
        have g9 : decide (9 ≤ (k : Int)) = true := by simp; omega
        have g48 : decide (48 ≤ (k : Int)) = false := by simp; omega
        have g65 : decide (65 ≤ (k : Int)) = false := by simp; omega
        have g97 : decide (97 ≤ (k : Int)) = false := by simp; omega
        have l13 : decide ((k : Int) ≤ 13) = false := by simp; omega
        have l57 : decide ((k : Int) ≤ 57) = true := by simp; omega
        have l90 : decide ((k : Int) ≤ 90) = true := by simp; omega
        have l122 : decide ((k : Int) ≤ 122) = true := by simp; omega
        have l126 : decide ((k : Int) ≤ 126) = true := by simp; omega
        have s32 : decide (32 < (k : Int)) = false := by simp; omega
        clear a1 a2
        go_wp2
        go_roundw
        case rel => exact ⟨k + 1, by omega, by go_num, tab_skip hlt hr HC.out, hb⟩
        case measure => simp [intOf]; omega
      · have HC := Lib.hid (show cls k = 1 by unfold cls; repeat (first | rw [if_pos (by omega)] | rw [if_neg (by omega)]))
        have b32 : ((k : Int) == 32) = true := by simp; omega
        have b36 : ((k : Int) == 36) = false := by simp; omega
        have b45 : ((k : Int) == 45) = false := by simp; omega
        have b95 : ((k : Int) == 95) = false := by simp; omega
        have b46 : ((k : Int) == 46) = false := by simp; omega
        have b11 : ((k : Int) != 11) = true := by simp; omega
        have g9 : decide (9 ≤ (k : Int)) = true := by simp; omega
        have g48 : decide (48 ≤ (k : Int)) = false := by simp; omega
        have g65 : decide (65 ≤ (k : Int)) = false := by simp; omega
        have g97 : decide (97 ≤ (k : Int)) = false := by simp; omega
        have l13 : decide ((k : Int) ≤ 13) = false := by simp; omega
        have l57 : decide ((k : Int) ≤ 57) = true := by simp; omega
        have l90 : decide ((k : Int) ≤ 90) = true := by simp; omega
        have l122 : decide ((k : Int) ≤ 122) = true := by simp; omega
        have l126 : decide ((k : Int) ≤ 126) = true := by simp; omega
        have s32 : decide (32 < (k : Int)) = false := by simp; omega
        clear a1 a2
        go_wp2
        go_roundw
        case rel => exact ⟨k + 1, by omega, by go_num, rel_tab hlt hr (by rw [HC.out]; rfl), hb.setCell (Nat.le_refl _) _⟩
        case measure => simp [intOf]; omega
      · have HC := Lib.hid (show cls k = 3 by unfold cls; repeat (first | rw [if_pos (by omega)] | rw [if_neg (by omega)]))
        have b32 : ((k : Int) == 32) = false := by simp; omega
        have b36 : ((k : Int) == 36) = false := by simp; omega
        have b45 : ((k : Int) == 45) = false := by simp; omega
        have b95 : ((k : Int) == 95) = false := by simp; omega
        have b46 : ((k : Int) == 46) = false := by simp; omega
        have b11 : ((k : Int) != 11) = true := by simp; omega
        have g9 : decide (9 ≤ (k : Int)) = true := by simp; omega
        have g48 : decide (48 ≤ (k : Int)) = false := by simp; omega
        have g65 : decide (65 ≤ (k : Int)) = false := by simp; omega
        have g97 : decide (97 ≤ (k : Int)) = false := by simp; omega
        have l13 : decide ((k : Int) ≤ 13) = false := by simp; omega
        have l57 : decide ((k : Int) ≤ 57) = true := by simp; omega
        have l90 : decide ((k : Int) ≤ 90) = true := by simp; omega
        have l122 : decide ((k : Int) ≤ 122) = true := by simp; omega
        have l126 : decide ((k : Int) ≤ 126) = true := by simp; omega
        have s32 : decide (32 < (k : Int)) = true := by simp; omega
        clear a1 a2
        go_wp2
        go_roundw
        case rel => exact ⟨k + 1, by omega, by go_num, rel_tab hlt hr (by rw [HC.out]; rfl), hb.setCell (Nat.le_refl _) _⟩
        case measure => simp [intOf]; omega
      · have HC := Lib.hid (show cls k = 4 by unfold cls; repeat (first | rw [if_pos (by omega)] | rw [if_neg (by omega)]))
        have b32 : ((k : Int) == 32) = false := by simp; omega
        have b36 : ((k : Int) == 36) = true := by simp; omega
        have b45 : ((k : Int) == 45) = false := by simp; omega
        have b95 : ((k : Int) == 95) = false := by simp; omega
        have b46 : ((k : Int) == 46) = false := by simp; omega
        have b11 : ((k : Int) != 11) = true := by simp; omega
        have g9 : decide (9 ≤ (k : Int)) = true := by simp; omega
        have g48 : decide (48 ≤ (k : Int)) = false := by simp; omega
        have g65 : decide (65 ≤ (k : Int)) = false := by simp; omega
        have g97 : decide (97 ≤ (k : Int)) = false := by simp; omega
        have l13 : decide ((k : Int) ≤ 13) = false := by simp; omega
        have l57 : decide ((k : Int) ≤ 57) = true := by simp; omega
        have l90 : decide ((k : Int) ≤ 90) = true := by simp; omega
        have l122 : decide ((k : Int) ≤ 122) = true := by simp; omega
        have l126 : decide ((k : Int) ≤ 126) = true := by simp; omega
        have s32 : decide (32 < (k : Int)) = true := by simp; omega
        clear a1 a2
        go_wp2
        go_roundw
        case rel => exact ⟨k + 1, by omega, by go_num, rel_tab hlt hr (by rw [HC.out]; rfl), hb.setCell (Nat.le_refl _) _⟩
        case measure => simp [intOf]; omega
      · have HC := Lib.hid (show cls k = 3 by unfold cls; repeat (first | rw [if_pos (by omega)] | rw [if_neg (by omega)]))
        have b32 : ((k : Int) == 32) = false := by simp; omega
        have b36 : ((k : Int) == 36) = false := by simp; omega
        have b45 : ((k : Int) == 45) = false := by simp; omega
        have b95 : ((k : Int) == 95) = false := by simp; omega
        have b46 : ((k : Int) == 46) = false := by simp; omega
        have b11 : ((k : Int) != 11) = true := by simp; omega
        have g9 : decide (9 ≤ (k : Int)) = true := by simp; omega
        have g48 : decide (48 ≤ (k : Int)) = false := by simp; omega
        have g65 : decide (65 ≤ (k : Int)) = false := by simp; omega
        have g97 : decide (97 ≤ (k : Int)) = false := by simp; omega
        have l13 : decide ((k : Int) ≤ 13) = false := by simp; omega
        have l57 : decide ((k : Int) ≤ 57) = true := by simp; omega
        have l90 : decide ((k : Int) ≤ 90) = true := by simp; omega
        have l122 : decide ((k : Int) ≤ 122) = true := by simp; omega
        have l126 : decide ((k : Int) ≤ 126) = true := by simp; omega
        have s32 : decide (32 < (k : Int)) = true := by simp; omega
        clear a1 a2
        go_wp2
        go_roundw
        case rel => exact ⟨k + 1, by omega, by go_num, rel_tab hlt hr (by rw [HC.out]; rfl), hb.setCell (Nat.le_refl _) _⟩
        case measure => simp [intOf]; omega
      · have HC := Lib.hid (show cls k = 2 by unfold cls; repeat (first | rw [if_pos (by omega)] | rw [if_neg (by omega)]))
        have b32 : ((k : Int) == 32) = false := by simp; omega
        have b36 : ((k : Int) == 36) = false := by simp; omega
        have b45 : ((k : Int) == 45) = true := by simp; omega
        have b95 : ((k : Int) == 95) = false := by simp; omega
        have b46 : ((k : Int) == 46) = false := by simp; omega
        have b11 : ((k : Int) != 11) = true := by simp; omega
        have g9 : decide (9 ≤ (k : Int)) = true := by simp; omega
        have g48 : decide (48 ≤ (k : Int)) = false := by simp; omega
        have g65 : decide (65 ≤ (k : Int)) = false := by simp; omega
        have g97 : decide (97 ≤ (k : Int)) = false := by simp; omega
        have l13 : decide ((k : Int) ≤ 13) = false := by simp; omega
        have l57 : decide ((k : Int) ≤ 57) = true := by simp; omega
        have l90 : decide ((k : Int) ≤ 90) = true := by simp; omega
        have l122 : decide ((k : Int) ≤ 122) = true := by simp; omega
        have l126 : decide ((k : Int) ≤ 126) = true := by simp; omega
        have s32 : decide (32 < (k : Int)) = true := by simp; omega
        clear a1 a2
        go_wp2
        go_roundw
        case rel => exact ⟨k + 1, by omega, by go_num, rel_tab hlt hr (by rw [HC.out]; rfl), hb.setCell (Nat.le_refl _) _⟩
        case measure => simp [intOf]; omega
      · have HC := Lib.hid (show cls k = 2 by unfold cls; repeat (first | rw [if_pos (by omega)] | rw [if_neg (by omega)]))
        have b32 : ((k : Int) == 32) = false := by simp; omega
        have b36 : ((k : Int) == 36) = false := by simp; omega
        have b45 : ((k : Int) == 45) = false := by simp; omega
        have b95 : ((k : Int) == 95) = false := by simp; omega
        have b46 : ((k : Int) == 46) = true := by simp; omega
        have b11 : ((k : Int) != 11) = true := by simp; omega
        have g9 : decide (9 ≤ (k : Int)) = true := by simp; omega
        have g48 : decide (48 ≤ (k : Int)) = false := by simp; omega
        have g65 : decide (65 ≤ (k : Int)) = false := by simp; omega
        have g97 : decide (97 ≤ (k : Int)) = false := by simp; omega
        have l13 : decide ((k : Int) ≤ 13) = false := by simp; omega
        have l57 : decide ((k : Int) ≤ 57) = true := by simp; omega
        have l90 : decide ((k : Int) ≤ 90) = true := by simp; omega
        have l122 : decide ((k : Int) ≤ 122) = true := by simp; omega
        have l126 : decide ((k : Int) ≤ 126) = true := by simp; omega
        have s32 : decide (32 < (k : Int)) = true := by simp; omega
        clear a1 a2
        go_wp2
        go_roundw
        case rel => exact ⟨k + 1, by omega, by go_num, rel_tab hlt hr (by rw [HC.out]; rfl), hb.setCell (Nat.le_refl _) _⟩
        case measure => simp [intOf]; omega
      · have HC := Lib.hid (show cls k = 3 by unfold cls; repeat (first | rw [if_pos (by omega)] | rw [if_neg (by omega)]))
        have b32 : ((k : Int) == 32) = false := by simp; omega
        have b36 : ((k : Int) == 36) = false := by simp; omega
        have b45 : ((k : Int) == 45) = false := by simp; omega
        have b95 : ((k : Int) == 95) = false := by simp; omega
        have b46 : ((k : Int) == 46) = false := by simp; omega
        have b11 : ((k : Int) != 11) = true := by simp; omega
        have g9 : decide (9 ≤ (k : Int)) = true := by simp; omega
        have g48 : decide (48 ≤ (k : Int)) = false := by simp; omega
        have g65 : decide (65 ≤ (k : Int)) = false := by simp; omega
        have g97 : decide (97 ≤ (k : Int)) = false := by simp; omega
        have l13 : decide ((k : Int) ≤ 13) = false := by simp; omega
        have l57 : decide ((k : Int) ≤ 57) = true := by simp; omega
        have l90 : decide ((k : Int) ≤ 90) = true := by simp; omega
        have l122 : decide ((k : Int) ≤ 122) = true := by simp; omega
        have l126 : decide ((k : Int) ≤ 126) = true := by simp; omega
        have s32 : decide (32 < (k : Int)) = true := by simp; omega
        clear a1 a2
        go_wp2
        go_roundw
        case rel => exact ⟨k + 1, by omega, by go_num, rel_tab hlt hr (by rw [HC.out]; rfl), hb.setCell (Nat.le_refl _) _⟩
        case measure => simp [intOf]; omega
      · have HC := Lib.hid (show cls k = 2 by unfold cls; repeat (first | rw [if_pos (by omega)] | rw [if_neg (by omega)]))
        have b32 : ((k : Int) == 32) = false := by simp; omega
        have b36 : ((k : Int) == 36) = false := by simp; omega
        have b45 : ((k : Int) == 45) = false := by simp; omega
        have b95 : ((k : Int) == 95) = false := by simp; omega
        have b46 : ((k : Int) == 46) = false := by simp; omega
        have b11 : ((k : Int) != 11) = true := by simp; omega
        have g9 : decide (9 ≤ (k : Int)) = true := by simp; omega
        have g48 : decide (48 ≤ (k : Int)) = true := by simp; omega
        have g65 : decide (65 ≤ (k : Int)) = false := by simp; omega
        have g97 : decide (97 ≤ (k : Int)) = false := by simp; omega
        have l13 : decide ((k : Int) ≤ 13) = false := by simp; omega
        have l57 : decide ((k : Int) ≤ 57) = true := by simp; omega
        have l90 : decide ((k : Int) ≤ 90) = true := by simp; omega
        have l122 : decide ((k : Int) ≤ 122) = true := by simp; omega
        have l126 : decide ((k : Int) ≤ 126) = true := by simp; omega
        have s32 : decide (32 < (k : Int)) = true := by simp; omega
        clear a1 a2
        go_wp2
        go_roundw
        case rel => exact ⟨k + 1, by omega, by go_num, rel_tab hlt hr (by rw [HC.out]; rfl), hb.setCell (Nat.le_refl _) _⟩
        case measure => simp [intOf]; omega
      · have HC := Lib.hid (show cls k = 3 by unfold cls; repeat (first | rw [if_pos (by omega)] | rw [if_neg (by omega)]))
        have b32 : ((k : Int) == 32) = false := by simp; omega
        have b36 : ((k : Int) == 36) = false := by simp; omega
        have b45 : ((k : Int) == 45) = false := by simp; omega
        have b95 : ((k : Int) == 95) = false := by simp; omega
        have b46 : ((k : Int) == 46) = false := by simp; omega
        have b11 : ((k : Int) != 11) = true := by simp; omega
        have g9 : decide (9 ≤ (k : Int)) = true := by simp; omega
        have g48 : decide (48 ≤ (k : Int)) = true := by simp; omega
        have g65 : decide (65 ≤ (k : Int)) = false := by simp; omega
        have g97 : decide (97 ≤ (k : Int)) = false := by simp; omega
        have l13 : decide ((k : Int) ≤ 13) = false := by simp; omega
        have l57 : decide ((k : Int) ≤ 57) = false := by simp; omega
        have l90 : decide ((k : Int) ≤ 90) = true := by simp; omega
        have l122 : decide ((k : Int) ≤ 122) = true := by simp; omega
        have l126 : decide ((k : Int) ≤ 126) = true := by simp; omega
        have s32 : decide (32 < (k : Int)) = true := by simp; omega
        clear a1 a2
        go_wp2
        go_roundw
        case rel => exact ⟨k + 1, by omega, by go_num, rel_tab hlt hr (by rw [HC.out]; rfl), hb.setCell (Nat.le_refl _) _⟩
        case measure => simp [intOf]; omega
      · have HC := Lib.hid (show cls k = 2 by unfold cls; repeat (first | rw [if_pos (by omega)] | rw [if_neg (by omega)]))
        have b32 : ((k : Int) == 32) = false := by simp; omega
        have b36 : ((k : Int) == 36) = false := by simp; omega
        have b45 : ((k : Int) == 45) = false := by simp; omega
        have b95 : ((k : Int) == 95) = false := by simp; omega
        have b46 : ((k : Int) == 46) = false := by simp; omega
        have b11 : ((k : Int) != 11) = true := by simp; omega
        have g9 : decide (9 ≤ (k : Int)) = true := by simp; omega
        have g48 : decide (48 ≤ (k : Int)) = true := by simp; omega
        have g65 : decide (65 ≤ (k : Int)) = true := by simp; omega
        have g97 : decide (97 ≤ (k : Int)) = false := by simp; omega
        have l13 : decide ((k : Int) ≤ 13) = false := by simp; omega
        have l57 : decide ((k : Int) ≤ 57) = false := by simp; omega
        have l90 : decide ((k : Int) ≤ 90) = true := by simp; omega
        have l122 : decide ((k : Int) ≤ 122) = true := by simp; omega
        have l126 : decide ((k : Int) ≤ 126) = true := by simp; omega
        have s32 : decide (32 < (k : Int)) = true := by simp; omega
        clear a1 a2
        go_wp2
        go_roundw
        case rel => exact ⟨k + 1, by omega, by go_num, rel_tab hlt hr (by rw [HC.out]; rfl), hb.setCell (Nat.le_refl _) _⟩
        case measure => simp [intOf]; omega
      · have HC := Lib.hid (show cls k = 3 by unfold cls; repeat (first | rw [if_pos (by omega)] | rw [if_neg (by omega)]))
        have b32 : ((k : Int) == 32) = false := by simp; omega
        have b36 : ((k : Int) == 36) = false := by simp; omega
        have b45 : ((k : Int) == 45) = false := by simp; omega
        have b95 : ((k : Int) == 95) = false := by simp; omega
        have b46 : ((k : Int) == 46) = false := by simp; omega
        have b11 : ((k : Int) != 11) = true := by simp; omega
        have g9 : decide (9 ≤ (k : Int)) = true := by simp; omega
        have g48 : decide (48 ≤ (k : Int)) = true := by simp; omega
        have g65 : decide (65 ≤ (k : Int)) = true := by simp; omega
        have g97 : decide (97 ≤ (k : Int)) = false := by simp; omega
        have l13 : decide ((k : Int) ≤ 13) = false := by simp; omega
        have l57 : decide ((k : Int) ≤ 57) = false := by simp; omega
        have l90 : decide ((k : Int) ≤ 90) = false := by simp; omega
        have l122 : decide ((k : Int) ≤ 122) = true := by simp; omega
        have l126 : decide ((k : Int) ≤ 126) = true := by simp; omega
        have s32 : decide (32 < (k : Int)) = true := by simp; omega
        clear a1 a2
        go_wp2
        go_roundw
        case rel => exact ⟨k + 1, by omega, by go_num, rel_tab hlt hr (by rw [HC.out]; rfl), hb.setCell (Nat.le_refl _) _⟩
        case measure => simp [intOf]; omega
      · have HC := Lib.hid (show cls k = 2 by unfold cls; repeat (first | rw [if_pos (by omega)] | rw [if_neg (by omega)]))
        have b32 : ((k : Int) == 32) = false := by simp; omega
        have b36 : ((k : Int) == 36) = false := by simp; omega
        have b45 : ((k : Int) == 45) = false := by simp; omega
        have b95 : ((k : Int) == 95) = true := by simp; omega
        have b46 : ((k : Int) == 46) = false := by simp; omega
        have b11 : ((k : Int) != 11) = true := by simp; omega
        have g9 : decide (9 ≤ (k : Int)) = true := by simp; omega
        have g48 : decide (48 ≤ (k : Int)) = true := by simp; omega
        have g65 : decide (65 ≤ (k : Int)) = true := by simp; omega
        have g97 : decide (97 ≤ (k : Int)) = false := by simp; omega
        have l13 : decide ((k : Int) ≤ 13) = false := by simp; omega
        have l57 : decide ((k : Int) ≤ 57) = false := by simp; omega
        have l90 : decide ((k : Int) ≤ 90) = false := by simp; omega
        have l122 : decide ((k : Int) ≤ 122) = true := by simp; omega
        have l126 : decide ((k : Int) ≤ 126) = true := by simp; omega
        have s32 : decide (32 < (k : Int)) = true := by simp; omega
        clear a1 a2
        go_wp2
        go_roundw
        case rel => exact ⟨k + 1, by omega, by go_num, rel_tab hlt hr (by rw [HC.out]; rfl), hb.setCell (Nat.le_refl _) _⟩
        case measure => simp [intOf]; omega
      · have HC := Lib.hid (show cls k = 3 by unfold cls; repeat (first | rw [if_pos (by omega)] | rw [if_neg (by omega)]))
        have b32 : ((k : Int) == 32) = false := by simp; omega
        have b36 : ((k : Int) == 36) = false := by simp; omega
        have b45 : ((k : Int) == 45) = false := by simp; omega
        have b95 : ((k : Int) == 95) = false := by simp; omega
        have b46 : ((k : Int) == 46) = false := by simp; omega
        have b11 : ((k : Int) != 11) = true := by simp; omega
        have g9 : decide (9 ≤ (k : Int)) = true := by simp; omega
        have g48 : decide (48 ≤ (k : Int)) = true := by simp; omega
        have g65 : decide (65 ≤ (k : Int)) = true := by simp; omega
        have g97 : decide (97 ≤ (k : Int)) = false := by simp; omega
        have l13 : decide ((k : Int) ≤ 13) = false := by simp; omega
        have l57 : decide ((k : Int) ≤ 57) = false := by simp; omega
        have l90 : decide ((k : Int) ≤ 90) = false := by simp; omega
        have l122 : decide ((k : Int) ≤ 122) = true := by simp; omega
        have l126 : decide ((k : Int) ≤ 126) = true := by simp; omega
        have s32 : decide (32 < (k : Int)) = true := by simp; omega
        clear a1 a2
        go_wp2
        go_roundw
        case rel => exact ⟨k + 1, by omega, by go_num, rel_tab hlt hr (by rw [HC.out]; rfl), hb.setCell (Nat.le_refl _) _⟩
        case measure => simp [intOf]; omega
      · have HC := Lib.hid (show cls k = 2 by unfold cls; repeat (first | rw [if_pos (by omega)] | rw [if_neg (by omega)]))
        have b32 : ((k : Int) == 32) = false := by simp; omega
        have b36 : ((k : Int) == 36) = false := by simp; omega
        have b45 : ((k : Int) == 45) = false := by simp; omega
        have b95 : ((k : Int) == 95) = false := by simp; omega
        have b46 : ((k : Int) == 46) = false := by simp; omega
        have b11 : ((k : Int) != 11) = true := by simp; omega
        have g9 : decide (9 ≤ (k : Int)) = true := by simp; omega
        have g48 : decide (48 ≤ (k : Int)) = true := by simp; omega
        have g65 : decide (65 ≤ (k : Int)) = true := by simp; omega
        have g97 : decide (97 ≤ (k : Int)) = true := by simp; omega
        have l13 : decide ((k : Int) ≤ 13) = false := by simp; omega
        have l57 : decide ((k : Int) ≤ 57) = false := by simp; omega
        have l90 : decide ((k : Int) ≤ 90) = false := by simp; omega
        have l122 : decide ((k : Int) ≤ 122) = true := by simp; omega
        have l126 : decide ((k : Int) ≤ 126) = true := by simp; omega
        have s32 : decide (32 < (k : Int)) = true := by simp; omega
        clear a1 a2
        go_wp2
        go_roundw
        case rel => exact ⟨k + 1, by omega, by go_num, rel_tab hlt hr (by rw [HC.out]; rfl), hb.setCell (Nat.le_refl _) _⟩
        case measure => simp [intOf]; omega
      · have HC := Lib.hid (show cls k = 3 by unfold cls; repeat (first | rw [if_pos (by omega)] | rw [if_neg (by omega)]))
        have b32 : ((k : Int) == 32) = false := by simp; omega
        have b36 : ((k : Int) == 36) = false := by simp; omega
        have b45 : ((k : Int) == 45) = false := by simp; omega
        have b95 : ((k : Int) == 95) = false := by simp; omega
        have b46 : ((k : Int) == 46) = false := by simp; omega
        have b11 : ((k : Int) != 11) = true := by simp; omega
        have g9 : decide (9 ≤ (k : Int)) = true := by simp; omega
        have g48 : decide (48 ≤ (k : Int)) = true := by simp; omega
        have g65 : decide (65 ≤ (k : Int)) = true := by simp; omega
        have g97 : decide (97 ≤ (k : Int)) = true := by simp; omega
        have l13 : decide ((k : Int) ≤ 13) = false := by simp; omega
        have l57 : decide ((k : Int) ≤ 57) = false := by simp; omega
        have l90 : decide ((k : Int) ≤ 90) = false := by simp; omega
        have l122 : decide ((k : Int) ≤ 122) = false := by simp; omega
        have l126 : decide ((k : Int) ≤ 126) = true := by simp; omega
        have s32 : decide (32 < (k : Int)) = true := by simp; omega
        clear a1 a2
        go_wp2
        go_roundw
        case rel => exact ⟨k + 1, by omega, by go_num, rel_tab hlt hr (by rw [HC.out]; rfl), hb.setCell (Nat.le_refl _) _⟩
        case measure => simp [intOf]; omega
      · have HC := Lib.hid (show cls k = 0 by unfold cls; repeat (first | rw [if_pos (by omega)] | rw [if_neg (by omega)]))
        have b32 : ((k : Int) == 32) = false := by simp; omega
        have b36 : ((k : Int) == 36) = false := by simp; omega
        have b45 : ((k : Int) == 45) = false := by simp; omega
        have b95 : ((k : Int) == 95) = false := by simp; omega
        have b46 : ((k : Int) == 46) = false := by simp; omega
        have b11 : ((k : Int) != 11) = true := by simp; omega
        have g9 : decide (9 ≤ (k : Int)) = true := by simp; omega
        have g48 : decide (48 ≤ (k : Int)) = true := by simp; omega
        have g65 : decide (65 ≤ (k : Int)) = true := by simp; omega
        have g97 : decide (97 ≤ (k : Int)) = true := by simp; omega
        have l13 : decide ((k : Int) ≤ 13) = false := by simp; omega
        have l57 : decide ((k : Int) ≤ 57) = false := by simp; omega
        have l90 : decide ((k : Int) ≤ 90) = false := by simp; omega
        have l122 : decide ((k : Int) ≤ 122) = false := by simp; omega
        have l126 : decide ((k : Int) ≤ 126) = false := by simp; omega
        have s32 : decide (32 < (k : Int)) = true := by simp; omega
        clear a1 a2
        go_wp2
        go_roundw
        case rel => exact ⟨k + 1, by omega, by go_num, tab_skip hlt hr HC.out, hb⟩
        case measure => simp [intOf]; omega
    · obtain rfl : k = 256 := by omega
      have hi : (Try.prog.info? 71).map (·.size) = some (tabA 256).size := by rw [tabA_size]; kernel_rfl
      have hone : (tabA 256).all (·.oneCell') = true := by kernel_rfl
      go_wp2_with (first | (refine wpList_load_row rfl 71 (.tmp 0) rfl w.heap.size rfl 71 (tabA 256) (0, 0) _ hr Try.underlying71 rfl hi ?_) | (refine wpList_store_row rfl 71 (.tmp 0) (.tmp 77) rfl w.heap.size (tabA 256) rfl rfl 71 (tabA 256) hr hi rfl hone ?_))
      have hr2 : Row (wr.setRow w.heap.size (tabA 256)) w.heap.size 71 (tabA 256) := setRow_heap wr _ _ _ _ _ hr
      refine bodyPost_ret (results_cell_row rfl _ _ w.heap.size 71 (tabA 256) (0, 0) _ rfl hr2 Try.underlying71 rfl hi) rfl ⟨rfl, hb.trans ⟨rfl, rfl, rfl, by simp, fun k hk => setRow_other _ _ _ _ (by omega)⟩⟩
end Go.Proofs.Ythkeggmloajapaa
end
section
namespace Go.Proofs.Ythkeggmloajapaa
open Go.RowKit
/-- a class as a cell's value -/
def cv (c : Nat) : Value := .int .u8 (c : Int)
end Go.Proofs.Ythkeggmloajapaa
end
