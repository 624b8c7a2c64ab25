/- the table of classes labels: slices.Index and Contains of bytes, token.only, IsLabel -/
import Derived.Test.YtpmbfcogkoiogaaDoorBaseA
import Derived.Test.YtpmbfcogkoiogaaDoorPlainA
import Derived.RegionTactic
section
namespace Go.Proofs.YtpmbfcogkoiogaaDoor
open Go.RowKit
/-- the table of which the first k cells are laid -/
def tabA (k : Nat) : Array Value := ((List.range 256).map fun j => if j < k then Value.int .u8 (cls j : Nat) else .int .u8 0).toArray
theorem tabA_size (k : Nat) : (tabA k).size = 256 := by simp [tabA]
theorem tabA_at (k j : Nat) (hj : j < 256) : (tabA k)[j]? = some (if j < k then Value.int .u8 (cls j : Nat) else .int .u8 0) := by
  simp [tabA, hj]
theorem tabA_set (k : Nat) (hk : k < 256) (v : Value) (hv : v = .int .u8 (cls k : Nat)) : (tabA k).setIfInBounds k v = tabA (k + 1) := by
  subst hv
  apply Array.ext_getElem?
  intro j
  by_cases hj : j < 256
  · rw [Array.getElem?_setIfInBounds, tabA_at _ _ hj, tabA_at _ _ hj, tabA_size]
    by_cases h1 : k = j
    · subst h1; simp [hk]
    · rw [if_neg h1]
      by_cases h2 : j < k
      · rw [if_pos h2, if_pos (by omega)]
      · rw [if_neg h2, if_neg (by omega)]
  · rw [Array.getElem?_eq_none (by simp [tabA_size]; omega), Array.getElem?_eq_none (by rw [tabA_size]; omega)]
theorem tabA_skip (k : Nat) (hk : k < 256) (hc : cls k = 0) : tabA k = tabA (k + 1) := by
  rw [← tabA_set k hk (.int .u8 0) (by rw [hc]; rfl)]
  apply Array.ext_getElem?
  intro j
  by_cases hj : k = j
  · subst hj
    rw [Array.getElem?_setIfInBounds, tabA_at _ _ hk, tabA_size]; simp [hk]
  · rw [Array.getElem?_setIfInBounds, if_neg hj]
theorem tabA_zero : Tryd.zeroCells104 = tabA 0 := by kernel_rfl
theorem tab_skip {w w1 : World} {k : Nat} (hk : k < 256) (hr : Row w1 w.heap.size 104 (tabA k)) (hc : cls k = 0) : Row w1 w.heap.size 104 (tabA (k + 1)) := by
  rw [← tabA_skip k hk hc]; exact hr
theorem rel_tab {w w1 : World} {k : Nat} {v : Value} (hk : k < 256) (hr : Row w1 w.heap.size 104 (tabA k)) (hv : v = .int .u8 (cls k : Nat)) : Row (w1.setCell ⟨w.heap.size, k, none⟩ v) w.heap.size 104 (tabA (k + 1)) := by
  rw [← tabA_set k hk v hv]; exact hr.set k v
set_option maxRecDepth 100000 in
set_option maxHeartbeats 4000000 in
theorem classes_any (w : World) : Calls Tryd.prog 72 #[] w fun e w' => e = .returned (.agg (tabA 256)) ∧ Below w.heap.size w w' := by
  go_enter Tryd.func72, Tryd.ntmps72
  go_wp2
  rw [tabA_zero]
  go_loopw [3] (fun i wr => ∃ k : Nat, k ≤ 256 ∧ i = .int .i64 k ∧ Row wr w.heap.size 104 (tabA k) ∧ Below w.heap.size w wr) (fun i _ => 256 - (intOf i).toNat)
  case atStart => exact ⟨0, by omega, rfl, Row.new _ _ _, (Below.refl _ _).alloc (by simp) _⟩
  case round =>
    obtain ⟨k, hk, rfl, hr, hb⟩ := hrel
    have hal : Tryd.prog.arrayLen 104 = 256 := by kernel_rfl
    by_cases hlt : k < 256
    · obtain ⟨v0, hv0⟩ : ∃ v, (tabA k)[k]? = some v := ⟨_, tabA_at k k hlt⟩
      have hc := hr.cell hv0
      have hf := hr.free k
      clear hv0
      have hk' : (k : Int) < 256 := by omega
      rcases (show (0 ≤ k ∧ k ≤ 8) ∨ (9 ≤ k ∧ k ≤ 10) ∨ (11 ≤ k ∧ k ≤ 11) ∨ (12 ≤ k ∧ k ≤ 13) ∨ (14 ≤ k ∧ k ≤ 31) ∨ (32 ≤ k ∧ k ≤ 32) ∨ (33 ≤ k ∧ k ≤ 35) ∨ (36 ≤ k ∧ k ≤ 36) ∨ (37 ≤ k ∧ k ≤ 44) ∨ (45 ≤ k ∧ k ≤ 45) ∨ (46 ≤ k ∧ k ≤ 46) ∨ (47 ≤ k ∧ k ≤ 47) ∨ (48 ≤ k ∧ k ≤ 57) ∨ (58 ≤ k ∧ k ≤ 64) ∨ (65 ≤ k ∧ k ≤ 90) ∨ (91 ≤ k ∧ k ≤ 94) ∨ (95 ≤ k ∧ k ≤ 95) ∨ (96 ≤ k ∧ k ≤ 96) ∨ (97 ≤ k ∧ k ≤ 122) ∨ (123 ≤ k ∧ k ≤ 126) ∨ (127 ≤ k ∧ k ≤ 255) from by omega) with ⟨a1, a2⟩ | ⟨a1, a2⟩ | ⟨a1, a2⟩ | ⟨a1, a2⟩ | ⟨a1, a2⟩ | ⟨a1, a2⟩ | ⟨a1, a2⟩ | ⟨a1, a2⟩ | ⟨a1, a2⟩ | ⟨a1, a2⟩ | ⟨a1, a2⟩ | ⟨a1, a2⟩ | ⟨a1, a2⟩ | ⟨a1, a2⟩ | ⟨a1, a2⟩ | ⟨a1, a2⟩ | ⟨a1, a2⟩ | ⟨a1, a2⟩ | ⟨a1, a2⟩ | ⟨a1, a2⟩ | ⟨a1, a2⟩
      · have HC := Lib.hid (show cls k = 0 by unfold cls; repeat (first | rw [if_pos (by omega)] | rw [if_neg (by omega)]))
        have b32 : ((k : Int) == 32) = false := by simp; omega
        have b36 : ((k : Int) == 36) = false := by simp; omega
        have b45 : ((k : Int) == 45) = false := by simp; omega
        have b95 : ((k : Int) == 95) = false := by simp; omega
        have b46 : ((k : Int) == 46) = false := by simp; omega
        have b11 : ((k : Int) != 11) = true := by simp; omega
        have g9 : decide (9 ≤ (k : Int)) = false := by simp; omega
        have g48 : decide (48 ≤ (k : Int)) = false := by simp; omega
        have g65 : decide (65 ≤ (k : Int)) = false := by simp; omega
        have g97 : decide (97 ≤ (k : Int)) = false := by simp; omega
        have l13 : decide ((k : Int) ≤ 13) = true := by simp; omega
        have l57 : decide ((k : Int) ≤ 57) = true := by simp; omega
        have l90 : decide ((k : Int) ≤ 90) = true := by simp; omega
        have l122 : decide ((k : Int) ≤ 122) = true := by simp; omega
        have l126 : decide ((k : Int) ≤ 126) = true := by simp; omega
        have s32 : decide (32 < (k : Int)) = false := by simp; omega
        clear a1 a2
        go_wp2
        go_roundw
        case rel => exact ⟨k + 1, by omega, by go_num, tab_skip hlt hr HC.out, hb⟩
        case measure => simp [intOf]; omega
      · have HC := Lib.hid (show cls k = 1 by unfold cls; repeat (first | rw [if_pos (by omega)] | rw [if_neg (by omega)]))
        have b32 : ((k : Int) == 32) = false := by simp; omega
        have b36 : ((k : Int) == 36) = false := by simp; omega
        have b45 : ((k : Int) == 45) = false := by simp; omega
        have b95 : ((k : Int) == 95) = false := by simp; omega
        have b46 : ((k : Int) == 46) = false := by simp; omega
        have b11 : ((k : Int) != 11) = true := by simp; omega
        have g9 : decide (9 ≤ (k : Int)) = true := by simp; omega
        have g48 : decide (48 ≤ (k : Int)) = false := by simp; omega
        have g65 : decide (65 ≤ (k : Int)) = false := by simp; omega
        have g97 : decide (97 ≤ (k : Int)) = false := by simp; omega
        have l13 : decide ((k : Int) ≤ 13) = true := by simp; omega
        have l57 : decide ((k : Int) ≤ 57) = true := by simp; omega
        have l90 : decide ((k : Int) ≤ 90) = true := by simp; omega
        have l122 : decide ((k : Int) ≤ 122) = true := by simp; omega
        have l126 : decide ((k : Int) ≤ 126) = true := by simp; omega
        have s32 : decide (32 < (k : Int)) = false := by simp; omega
        clear a1 a2
        go_wp2
        go_roundw
        case rel => exact ⟨k + 1, by omega, by go_num, rel_tab hlt hr (by rw [HC.out]; rfl), hb.setCell (Nat.le_refl _) _⟩
        case measure => simp [intOf]; omega
      · have HC := Lib.hid (show cls k = 0 by unfold cls; repeat (first | rw [if_pos (by omega)] | rw [if_neg (by omega)]))
        have b32 : ((k : Int) == 32) = false := by simp; omega
        have b36 : ((k : Int) == 36) = false := by simp; omega
        have b45 : ((k : Int) == 45) = false := by simp; omega
        have b95 : ((k : Int) == 95) = false := by simp; omega
        have b46 : ((k : Int) == 46) = false := by simp; omega
        have b11 : ((k : Int) != 11) = false := by simp; omega
        have g9 : decide (9 ≤ (k : Int)) = true := by simp; omega
        have g48 : decide (48 ≤ (k : Int)) = false := by simp; omega
        have g65 : decide (65 ≤ (k : Int)) = false := by simp; omega
        have g97 : decide (97 ≤ (k : Int)) = false := by simp; omega
        have l13 : decide ((k : Int) ≤ 13) = true := by simp; omega
        have l57 : decide ((k : Int) ≤ 57) = true := by simp; omega
        have l90 : decide ((k : Int) ≤ 90) = true := by simp; omega
        have l122 : decide ((k : Int) ≤ 122) = true := by simp; omega
        have l126 : decide ((k : Int) ≤ 126) = true := by simp; omega
        have s32 : decide (32 < (k : Int)) = false := by simp; omega
        clear a1 a2
        go_wp2
        go_roundw
        case rel => exact ⟨k + 1, by omega, by go_num, tab_skip hlt hr HC.out, hb⟩
        case measure => simp [intOf]; omega
      · have HC := Lib.hid (show cls k = 1 by unfold cls; repeat (first | rw [if_pos (by omega)] | rw [if_neg (by omega)]))
        have b32 : ((k : Int) == 32) = false := by simp; omega
        have b36 : ((k : Int) == 36) = false := by simp; omega
        have b45 : ((k : Int) == 45) = false := by simp; omega
        have b95 : ((k : Int) == 95) = false := by simp; omega
        have b46 : ((k : Int) == 46) = false := by simp; omega
        have b11 : ((k : Int) != 11) = true := by simp; omega
        have g9 : decide (9 ≤ (k : Int)) = true := by simp; omega
        have g48 : decide (48 ≤ (k : Int)) = false := by simp; omega
        have g65 : decide (65 ≤ (k : Int)) = false := by simp; omega
        have g97 : decide (97 ≤ (k : Int)) = false := by simp; omega
        have l13 : decide ((k : Int) ≤ 13) = true := by simp; omega
        have l57 : decide ((k : Int) ≤ 57) = true := by simp; omega
        have l90 : decide ((k : Int) ≤ 90) = true := by simp; omega
        have l122 : decide ((k : Int) ≤ 122) = true := by simp; omega
        have l126 : decide ((k : Int) ≤ 126) = true := by simp; omega
        have s32 : decide (32 < (k : Int)) = false := by simp; omega
        clear a1 a2
        go_wp2
        go_roundw
        case rel => exact ⟨k + 1, by omega, by go_num, rel_tab hlt hr (by rw [HC.out]; rfl), hb.setCell (Nat.le_refl _) _⟩
        case measure => simp [intOf]; omega
      · have HC := Lib.hid (show cls k = 0 by unfold cls; repeat (first | rw [if_pos (by omega)] | rw [if_neg (by omega)]))
        have b32 : ((k : Int) == 32) = false := by simp; omega
        have b36 : ((k : Int) == 36) = false := by simp; omega
        have b45 : ((k : Int) == 45) = false := by simp; omega
        have b95 : ((k : Int) == 95) = false := by simp; omega
        have b46 : ((k : Int) == 46) = false := by simp; omega
        have b11 : ((k : Int) != 11) = true := by simp; omega
        have g9 : decide (9 ≤ (k : Int)) = true := by simp; omega
        have g48 : decide (48 ≤ (k : Int)) = false := by simp; omega
        have g65 : decide (65 ≤ (k : Int)) = false := by simp; omega
        have g97 : decide (97 ≤ (k : Int)) = false := by simp; omega
        have l13 : decide ((k : Int) ≤ 13) = false := by simp; omega
        have l57 : decide ((k : Int) ≤ 57) = true := by simp; omega
        have l90 : decide ((k : Int) ≤ 90) = true := by simp; omega
        have l122 : decide ((k : Int) ≤ 122) = true := by simp; omega
        have l126 : decide ((k : Int) ≤ 126) = true := by simp; omega
        have s32 : decide (32 < (k : Int)) = false := by simp; omega
        clear a1 a2
        go_wp2
        go_roundw
        case rel => exact ⟨k + 1, by omega, by go_num, tab_skip hlt hr HC.out, hb⟩
        case measure => simp [intOf]; omega
      · have HC := Lib.hid (show cls k = 1 by unfold cls; repeat (first | rw [if_pos (by omega)] | rw [if_neg (by omega)]))
        have b32 : ((k : Int) == 32) = true := by simp; omega
        have b36 : ((k : Int) == 36) = false := by simp; omega
        have b45 : ((k : Int) == 45) = false := by simp; omega
        have b95 : ((k : Int) == 95) = false := by simp; omega
        have b46 : ((k : Int) == 46) = false := by simp; omega
        have b11 : ((k : Int) != 11) = true := by simp; omega
        have g9 : decide (9 ≤ (k : Int)) = true := by simp; omega
        have g48 : decide (48 ≤ (k : Int)) = false := by simp; omega
        have g65 : decide (65 ≤ (k : Int)) = false := by simp; omega
        have g97 : decide (97 ≤ (k : Int)) = false := by simp; omega
        have l13 : decide ((k : Int) ≤ 13) = false := by simp; omega
        have l57 : decide ((k : Int) ≤ 57) = true := by simp; omega
        have l90 : decide ((k : Int) ≤ 90) = true := by simp; omega
        have l122 : decide ((k : Int) ≤ 122) = true := by simp; omega
        have l126 : decide ((k : Int) ≤ 126) = true := by simp; omega
        have s32 : decide (32 < (k : Int)) = false := by simp; omega
        clear a1 a2
        go_wp2
        go_roundw
        case rel => exact ⟨k + 1, by omega, by go_num, rel_tab hlt hr (by rw [HC.out]; rfl), hb.setCell (Nat.le_refl _) _⟩
        case measure => simp [intOf]; omega
      · have HC := Lib.hid (show cls k = 3 by unfold cls; repeat (first | rw [if_pos (by omega)] | rw [if_neg (by omega)]))
        have b32 : ((k : Int) == 32) = false := by simp; omega
        have b36 : ((k : Int) == 36) = false := by simp; omega
        have b45 : ((k : Int) == 45) = false := by simp; omega
        have b95 : ((k : Int) == 95) = false := by simp; omega
        have b46 : ((k : Int) == 46) = false := by simp; omega
        have b11 : ((k : Int) != 11) = true := by simp; omega
        have g9 : decide (9 ≤ (k : Int)) = true := by simp; omega
        have g48 : decide (48 ≤ (k : Int)) = false := by simp; omega
        have g65 : decide (65 ≤ (k : Int)) = false := by simp; omega
        have g97 : decide (97 ≤ (k : Int)) = false := by simp; omega
        have l13 : decide ((k : Int) ≤ 13) = false := by simp; omega
        have l57 : decide ((k : Int) ≤ 57) = true := by simp; omega
        have l90 : decide ((k : Int) ≤ 90) = true := by simp; omega
        have l122 : decide ((k : Int) ≤ 122) = true := by simp; omega
        have l126 : decide ((k : Int) ≤ 126) = true := by simp; omega
        have s32 : decide (32 < (k : Int)) = true := by simp; omega
        clear a1 a2
        go_wp2
        go_roundw
        case rel => exact ⟨k + 1, by omega, by go_num, rel_tab hlt hr (by rw [HC.out]; rfl), hb.setCell (Nat.le_refl _) _⟩
        case measure => simp [intOf]; omega
      · have HC := Lib.hid (show cls k = 4 by unfold cls; repeat (first | rw [if_pos (by omega)] | rw [if_neg (by omega)]))
        have b32 : ((k : Int) == 32) = false := by simp; omega
        have b36 : ((k : Int) == 36) = true := by simp; omega
        have b45 : ((k : Int) == 45) = false := by simp; omega
        have b95 : ((k : Int) == 95) = false := by simp; omega
        have b46 : ((k : Int) == 46) = false := by simp; omega
        have b11 : ((k : Int) != 11) = true := by simp; omega
        have g9 : decide (9 ≤ (k : Int)) = true := by simp; omega
        have g48 : decide (48 ≤ (k : Int)) = false := by simp; omega
        have g65 : decide (65 ≤ (k : Int)) = false := by simp; omega
        have g97 : decide (97 ≤ (k : Int)) = false := by simp; omega
        have l13 : decide ((k : Int) ≤ 13) = false := by simp; omega
        have l57 : decide ((k : Int) ≤ 57) = true := by simp; omega
        have l90 : decide ((k : Int) ≤ 90) = true := by simp; omega
        have l122 : decide ((k : Int) ≤ 122) = true := by simp; omega
        have l126 : decide ((k : Int) ≤ 126) = true := by simp; omega
        have s32 : decide (32 < (k : Int)) = true := by simp; omega
        clear a1 a2
        go_wp2
        go_roundw
        case rel => exact ⟨k + 1, by omega, by go_num, rel_tab hlt hr (by rw [HC.out]; rfl), hb.setCell (Nat.le_refl _) _⟩
        case measure => simp [intOf]; omega
      · have HC := Lib.hid (show cls k = 3 by unfold cls; repeat (first | rw [if_pos (by omega)] | rw [if_neg (by omega)]))
        have b32 : ((k : Int) == 32) = false := by simp; omega
        have b36 : ((k : Int) == 36) = false := by simp; omega
        have b45 : ((k : Int) == 45) = false := by simp; omega
        have b95 : ((k : Int) == 95) = false := by simp; omega
        have b46 : ((k : Int) == 46) = false := by simp; omega
        have b11 : ((k : Int) != 11) = true := by simp; omega
        have g9 : decide (9 ≤ (k : Int)) = true := by simp; omega
        have g48 : decide (48 ≤ (k : Int)) = false := by simp; omega
        have g65 : decide (65 ≤ (k : Int)) = false := by simp; omega
        have g97 : decide (97 ≤ (k : Int)) = false := by simp; omega
        have l13 : decide ((k : Int) ≤ 13) = false := by simp; omega
        have l57 : decide ((k : Int) ≤ 57) = true := by simp; omega
        have l90 : decide ((k : Int) ≤ 90) = true := by simp; omega
        have l122 : decide ((k : Int) ≤ 122) = true := by simp; omega
        have l126 : decide ((k : Int) ≤ 126) = true := by simp; omega
        have s32 : decide (32 < (k : Int)) = true := by simp; omega
        clear a1 a2
        go_wp2
        go_roundw
        case rel => exact ⟨k + 1, by omega, by go_num, rel_tab hlt hr (by rw [HC.out]; rfl), hb.setCell (Nat.le_refl _) _⟩
        case measure => simp [intOf]; omega
      · have HC := Lib.hid (show cls k = 2 by unfold cls; repeat (first | rw [if_pos (by omega)] | rw [if_neg (by omega)]))
        have b32 : ((k : Int) == 32) = false := by simp; omega
        have b36 : ((k : Int) == 36) = false := by simp; omega
        have b45 : ((k : Int) == 45) = true := by simp; omega
        have b95 : ((k : Int) == 95) = false := by simp; omega
        have b46 : ((k : Int) == 46) = false := by simp; omega
        have b11 : ((k : Int) != 11) = true := by simp; omega
        have g9 : decide (9 ≤ (k : Int)) = true := by simp; omega
        have g48 : decide (48 ≤ (k : Int)) = false := by simp; omega
        have g65 : decide (65 ≤ (k : Int)) = false := by simp; omega
        have g97 : decide (97 ≤ (k : Int)) = false := by simp; omega
        have l13 : decide ((k : Int) ≤ 13) = false := by simp; omega
        have l57 : decide ((k : Int) ≤ 57) = true := by simp; omega
        have l90 : decide ((k : Int) ≤ 90) = true := by simp; omega
        have l122 : decide ((k : Int) ≤ 122) = true := by simp; omega
        have l126 : decide ((k : Int) ≤ 126) = true := by simp; omega
        have s32 : decide (32 < (k : Int)) = true := by simp; omega
        clear a1 a2
        go_wp2
        go_roundw
        case rel => exact ⟨k + 1, by omega, by go_num, rel_tab hlt hr (by rw [HC.out]; rfl), hb.setCell (Nat.le_refl _) _⟩
        case measure => simp [intOf]; omega
      · have HC := Lib.hid (show cls k = 2 by unfold cls; repeat (first | rw [if_pos (by omega)] | rw [if_neg (by omega)]))
        have b32 : ((k : Int) == 32) = false := by simp; omega
        have b36 : ((k : Int) == 36) = false := by simp; omega
        have b45 : ((k : Int) == 45) = false := by simp; omega
        have b95 : ((k : Int) == 95) = false := by simp; omega
        have b46 : ((k : Int) == 46) = true := by simp; omega
        have b11 : ((k : Int) != 11) = true := by simp; omega
        have g9 : decide (9 ≤ (k : Int)) = true := by simp; omega
        have g48 : decide (48 ≤ (k : Int)) = false := by simp; omega
        have g65 : decide (65 ≤ (k : Int)) = false := by simp; omega
        have g97 : decide (97 ≤ (k : Int)) = false := by simp; omega
        have l13 : decide ((k : Int) ≤ 13) = false := by simp; omega
        have l57 : decide ((k : Int) ≤ 57) = true := by simp; omega
        have l90 : decide ((k : Int) ≤ 90) = true := by simp; omega
        have l122 : decide ((k : Int) ≤ 122) = true := by simp; omega
        have l126 : decide ((k : Int) ≤ 126) = true := by simp; omega
        have s32 : decide (32 < (k : Int)) = true := by simp; omega
        clear a1 a2
        go_wp2
        go_roundw
        case rel => exact ⟨k + 1, by omega, by go_num, rel_tab hlt hr (by rw [HC.out]; rfl), hb.setCell (Nat.le_refl _) _⟩
        case measure => simp [intOf]; omega
      · have HC := Lib.hid (show cls k = 3 by unfold cls; repeat (first | rw [if_pos (by omega)] | rw [if_neg (by omega)]))
        have b32 : ((k : Int) == 32) = false := by simp; omega
        have b36 : ((k : Int) == 36) = false := by simp; omega
        have b45 : ((k : Int) == 45) = false := by simp; omega
        have b95 : ((k : Int) == 95) = false := by simp; omega
        have b46 : ((k : Int) == 46) = false := by simp; omega
        have b11 : ((k : Int) != 11) = true := by simp; omega
        have g9 : decide (9 ≤ (k : Int)) = true := by simp; omega
        have g48 : decide (48 ≤ (k : Int)) = false := by simp; omega
        have g65 : decide (65 ≤ (k : Int)) = false := by simp; omega
        have g97 : decide (97 ≤ (k : Int)) = false := by simp; omega
        have l13 : decide ((k : Int) ≤ 13) = false := by simp; omega
        have l57 : decide ((k : Int) ≤ 57) = true := by simp; omega
        have l90 : decide ((k : Int) ≤ 90) = true := by simp; omega
        have l122 : decide ((k : Int) ≤ 122) = true := by simp; omega
        have l126 : decide ((k : Int) ≤ 126) = true := by simp; omega
        have s32 : decide (32 < (k : Int)) = true := by simp; omega
        clear a1 a2
        go_wp2
        go_roundw
        case rel => exact ⟨k + 1, by omega, by go_num, rel_tab hlt hr (by rw [HC.out]; rfl), hb.setCell (Nat.le_refl _) _⟩
        case measure => simp [intOf]; omega
      · have HC := Lib.hid (show cls k = 2 by unfold cls; repeat (first | rw [if_pos (by omega)] | rw [if_neg (by omega)]))
        have b32 : ((k : Int) == 32) = false := by simp; omega
        have b36 : ((k : Int) == 36) = false := by simp; omega
        have b45 : ((k : Int) == 45) = false := by simp; omega
        have b95 : ((k : Int) == 95) = false := by simp; omega
        have b46 : ((k : Int) == 46) = false := by simp; omega
        have b11 : ((k : Int) != 11) = true := by simp; omega
        have g9 : decide (9 ≤ (k : Int)) = true := by simp; omega
        have g48 : decide (48 ≤ (k : Int)) = true := by simp; omega
        have g65 : decide (65 ≤ (k : Int)) = false := by simp; omega
        have g97 : decide (97 ≤ (k : Int)) = false := by simp; omega
        have l13 : decide ((k : Int) ≤ 13) = false := by simp; omega
        have l57 : decide ((k : Int) ≤ 57) = true := by simp; omega
        have l90 : decide ((k : Int) ≤ 90) = true := by simp; omega
        have l122 : decide ((k : Int) ≤ 122) = true := by simp; omega
        have l126 : decide ((k : Int) ≤ 126) = true := by simp; omega
        have s32 : decide (32 < (k : Int)) = true := by simp; omega
        clear a1 a2
        go_wp2
        go_roundw
        case rel => exact ⟨k + 1, by omega, by go_num, rel_tab hlt hr (by rw [HC.out]; rfl), hb.setCell (Nat.le_refl _) _⟩
        case measure => simp [intOf]; omega
      · have HC := Lib.hid (show cls k = 3 by unfold cls; repeat (first | rw [if_pos (by omega)] | rw [if_neg (by omega)]))
        have b32 : ((k : Int) == 32) = false := by simp; omega
        have b36 : ((k : Int) == 36) = false := by simp; omega
        have b45 : ((k : Int) == 45) = false := by simp; omega
        have b95 : ((k : Int) == 95) = false := by simp; omega
        have b46 : ((k : Int) == 46) = false := by simp; omega
        have b11 : ((k : Int) != 11) = true := by simp; omega
        have g9 : decide (9 ≤ (k : Int)) = true := by simp; omega
        have g48 : decide (48 ≤ (k : Int)) = true := by simp; omega
        have g65 : decide (65 ≤ (k : Int)) = false := by simp; omega
        have g97 : decide (97 ≤ (k : Int)) = false := by simp; omega
        have l13 : decide ((k : Int) ≤ 13) = false := by simp; omega
        have l57 : decide ((k : Int) ≤ 57) = false := by simp; omega
        have l90 : decide ((k : Int) ≤ 90) = true := by simp; omega
        have l122 : decide ((k : Int) ≤ 122) = true := by simp; omega
        have l126 : decide ((k : Int) ≤ 126) = true := by simp; omega
        have s32 : decide (32 < (k : Int)) = true := by simp; omega
        clear a1 a2
        go_wp2
        go_roundw
        case rel => exact ⟨k + 1, by omega, by go_num, rel_tab hlt hr (by rw [HC.out]; rfl), hb.setCell (Nat.le_refl _) _⟩
        case measure => simp [intOf]; omega
      · have HC := Lib.hid (show cls k = 2 by unfold cls; repeat (first | rw [if_pos (by omega)] | rw [if_neg (by omega)]))
        have b32 : ((k : Int) == 32) = false := by simp; omega
        have b36 : ((k : Int) == 36) = false := by simp; omega
        have b45 : ((k : Int) == 45) = false := by simp; omega
        have b95 : ((k : Int) == 95) = false := by simp; omega
        have b46 : ((k : Int) == 46) = false := by simp; omega
        have b11 : ((k : Int) != 11) = true := by simp; omega
        have g9 : decide (9 ≤ (k : Int)) = true := by simp; omega
        have g48 : decide (48 ≤ (k : Int)) = true := by simp; omega
        have g65 : decide (65 ≤ (k : Int)) = true := by simp; omega
        have g97 : decide (97 ≤ (k : Int)) = false := by simp; omega
        have l13 : decide ((k : Int) ≤ 13) = false := by simp; omega
        have l57 : decide ((k : Int) ≤ 57) = false := by simp; omega
        have l90 : decide ((k : Int) ≤ 90) = true := by simp; omega
        have l122 : decide ((k : Int) ≤ 122) = true := by simp; omega
        have l126 : decide ((k : Int) ≤ 126) = true := by simp; omega
        have s32 : decide (32 < (k : Int)) = true := by simp; omega
        clear a1 a2
        go_wp2
        go_roundw
        case rel => exact ⟨k + 1, by omega, by go_num, rel_tab hlt hr (by rw [HC.out]; rfl), hb.setCell (Nat.le_refl _) _⟩
        case measure => simp [intOf]; omega
      · have HC := Lib.hid (show cls k = 3 by unfold cls; repeat (first | rw [if_pos (by omega)] | rw [if_neg (by omega)]))
        have b32 : ((k : Int) == 32) = false := by simp; omega
        have b36 : ((k : Int) == 36) = false := by simp; omega
        have b45 : ((k : Int) == 45) = false := by simp; omega
        have b95 : ((k : Int) == 95) = false := by simp; omega
        have b46 : ((k : Int) == 46) = false := by simp; omega
        have b11 : ((k : Int) != 11) = true := by simp; omega
        have g9 : decide (9 ≤ (k : Int)) = true := by simp; omega
        have g48 : decide (48 ≤ (k : Int)) = true := by simp; omega
        have g65 : decide (65 ≤ (k : Int)) = true := by simp; omega
        have g97 : decide (97 ≤ (k : Int)) = false := by simp; omega
        have l13 : decide ((k : Int) ≤ 13) = false := by simp; omega
        have l57 : decide ((k : Int) ≤ 57) = false := by simp; omega
        have l90 : decide ((k : Int) ≤ 90) = false := by simp; omega
        have l122 : decide ((k : Int) ≤ 122) = true := by simp; omega
        have l126 : decide ((k : Int) ≤ 126) = true := by simp; omega
        have s32 : decide (32 < (k : Int)) = true := by simp; omega
        clear a1 a2
        go_wp2
        go_roundw
        case rel => exact ⟨k + 1, by omega, by go_num, rel_tab hlt hr (by rw [HC.out]; rfl), hb.setCell (Nat.le_refl _) _⟩
        case measure => simp [intOf]; omega
      · have HC := Lib.hid (show cls k = 2 by unfold cls; repeat (first | rw [if_pos (by omega)] | rw [if_neg (by omega)]))
        have b32 : ((k : Int) == 32) = false := by simp; omega
        have b36 : ((k : Int) == 36) = false := by simp; omega
        have b45 : ((k : Int) == 45) = false := by simp; omega
        have b95 : ((k : Int) == 95) = true := by simp; omega
        have b46 : ((k : Int) == 46) = false := by simp; omega
        have b11 : ((k : Int) != 11) = true := by simp; omega
        have g9 : decide (9 ≤ (k : Int)) = true := by simp; omega
        have g48 : decide (48 ≤ (k : Int)) = true := by simp; omega
        have g65 : decide (65 ≤ (k : Int)) = true := by simp; omega
        have g97 : decide (97 ≤ (k : Int)) = false := by simp; omega
        have l13 : decide ((k : Int) ≤ 13) = false := by simp; omega
        have l57 : decide ((k : Int) ≤ 57) = false := by simp; omega
        have l90 : decide ((k : Int) ≤ 90) = false := by simp; omega
        have l122 : decide ((k : Int) ≤ 122) = true := by simp; omega
        have l126 : decide ((k : Int) ≤ 126) = true := by simp; omega
        have s32 : decide (32 < (k : Int)) = true := by simp; omega
        clear a1 a2
        go_wp2
        go_roundw
        case rel => exact ⟨k + 1, by omega, by go_num, rel_tab hlt hr (by rw [HC.out]; rfl), hb.setCell (Nat.le_refl _) _⟩
        case measure => simp [intOf]; omega
      · have HC := Lib.hid (show cls k = 3 by unfold cls; repeat (first | rw [if_pos (by omega)] | rw [if_neg (by omega)]))
        have b32 : ((k : Int) == 32) = false := by simp; omega
        have b36 : ((k : Int) == 36) = false := by simp; omega
        have b45 : ((k : Int) == 45) = false := by simp; omega
        have b95 : ((k : Int) == 95) = false := by simp; omega
        have b46 : ((k : Int) == 46) = false := by simp; omega
        have b11 : ((k : Int) != 11) = true := by simp; omega
        have g9 : decide (9 ≤ (k : Int)) = true := by simp; omega
        have g48 : decide (48 ≤ (k : Int)) = true := by simp; omega
        have g65 : decide (65 ≤ (k : Int)) = true := by simp; omega
        have g97 : decide (97 ≤ (k : Int)) = false := by simp; omega
        have l13 : decide ((k : Int) ≤ 13) = false := by simp; omega
        have l57 : decide ((k : Int) ≤ 57) = false := by simp; omega
        have l90 : decide ((k : Int) ≤ 90) = false := by simp; omega
        have l122 : decide ((k : Int) ≤ 122) = true := by simp; omega
        have l126 : decide ((k : Int) ≤ 126) = true := by simp; omega
        have s32 : decide (32 < (k : Int)) = true := by simp; omega
        clear a1 a2
        go_wp2
        go_roundw
        case rel => exact ⟨k + 1, by omega, by go_num, rel_tab hlt hr (by rw [HC.out]; rfl), hb.setCell (Nat.le_refl _) _⟩
        case measure => simp [intOf]; omega
      · have HC := Lib.hid (show cls k = 2 by unfold cls; repeat (first | rw [if_pos (by omega)] | rw [if_neg (by omega)]))
        have b32 : ((k : Int) == 32) = false := by simp; omega
        have b36 : ((k : Int) == 36) = false := by simp; omega
        have b45 : ((k : Int) == 45) = false := by simp; omega
        have b95 : ((k : Int) == 95) = false := by simp; omega
        have b46 : ((k : Int) == 46) = false := by simp; omega
        have b11 : ((k : Int) != 11) = true := by simp; omega
        have g9 : decide (9 ≤ (k : Int)) = true := by simp; omega
        have g48 : decide (48 ≤ (k : Int)) = true := by simp; omega
        have g65 : decide (65 ≤ (k : Int)) = true := by simp; omega
        have g97 : decide (97 ≤ (k : Int)) = true := by simp; omega
        have l13 : decide ((k : Int) ≤ 13) = false := by simp; omega
        have l57 : decide ((k : Int) ≤ 57) = false := by simp; omega
        have l90 : decide ((k : Int) ≤ 90) = false := by simp; omega
        have l122 : decide ((k : Int) ≤ 122) = true := by simp; omega
        have l126 : decide ((k : Int) ≤ 126) = true := by simp; omega
        have s32 : decide (32 < (k : Int)) = true := by simp; omega
        clear a1 a2
        go_wp2
        go_roundw
        case rel => exact ⟨k + 1, by omega, by go_num, rel_tab hlt hr (by rw [HC.out]; rfl), hb.setCell (Nat.le_refl _) _⟩
        case measure => simp [intOf]; omega
      · have HC := Lib.hid (show cls k = 3 by unfold cls; repeat (first | rw [if_pos (by omega)] | rw [if_neg (by omega)]))
        have b32 : ((k : Int) == 32) = false := by simp; omega
        have b36 : ((k : Int) == 36) = false := by simp; omega
        have b45 : ((k : Int) == 45) = false := by simp; omega
        have b95 : ((k : Int) == 95) = false := by simp; omega
        have b46 : ((k : Int) == 46) = false := by simp; omega
        have b11 : ((k : Int) != 11) = true := by simp; omega
        have g9 : decide (9 ≤ (k : Int)) = true := by simp; omega
        have g48 : decide (48 ≤ (k : Int)) = true := by simp; omega
        have g65 : decide (65 ≤ (k : Int)) = true := by simp; omega
        have g97 : decide (97 ≤ (k : Int)) = true := by simp; omega
        have l13 : decide ((k : Int) ≤ 13) = false := by simp; omega
        have l57 : decide ((k : Int) ≤ 57) = false := by simp; omega
        have l90 : decide ((k : Int) ≤ 90) = false := by simp; omega
        have l122 : decide ((k : Int) ≤ 122) = false := by simp; omega
        have l126 : decide ((k : Int) ≤ 126) = true := by simp; omega
        have s32 : decide (32 < (k : Int)) = true := by simp; omega
        clear a1 a2
        go_wp2
        go_roundw
        case rel => exact ⟨k + 1, by omega, by go_num, rel_tab hlt hr (by rw [HC.out]; rfl), hb.setCell (Nat.le_refl _) _⟩
        case measure => simp [intOf]; omega
      · have HC := Lib.hid (show cls k = 0 by unfold cls; repeat (first | rw [if_pos (by omega)] | rw [if_neg (by omega)]))
        have b32 : ((k : Int) == 32) = false := by simp; omega
        have b36 : ((k : Int) == 36) = false := by simp; omega
        have b45 : ((k : Int) == 45) = false := by simp; omega
        have b95 : ((k : Int) == 95) = false := by simp; omega
        have b46 : ((k : Int) == 46) = false := by simp; omega
        have b11 : ((k : Int) != 11) = true := by simp; omega
        have g9 : decide (9 ≤ (k : Int)) = true := by simp; omega
        have g48 : decide (48 ≤ (k : Int)) = true := by simp; omega
        have g65 : decide (65 ≤ (k : Int)) = true := by simp; omega
        have g97 : decide (97 ≤ (k : Int)) = true := by simp; omega
        have l13 : decide ((k : Int) ≤ 13) = false := by simp; omega
        have l57 : decide ((k : Int) ≤ 57) = false := by simp; omega
        have l90 : decide ((k : Int) ≤ 90) = false := by simp; omega
        have l122 : decide ((k : Int) ≤ 122) = false := by simp; omega
        have l126 : decide ((k : Int) ≤ 126) = false := by simp; omega
        have s32 : decide (32 < (k : Int)) = true := by simp; omega
        clear a1 a2
        go_wp2
        go_roundw
        case rel => exact ⟨k + 1, by omega, by go_num, tab_skip hlt hr HC.out, hb⟩
        case measure => simp [intOf]; omega
    · obtain rfl : k = 256 := by omega
      have hi : (Tryd.prog.info? 104).map (·.size) = some (tabA 256).size := by rw [tabA_size]; kernel_rfl
      have hone : (tabA 256).all (·.oneCell') = true := by kernel_rfl
      go_wp2_with (first | (refine wpList_load_row rfl 104 (.tmp 0) rfl w.heap.size rfl 104 (tabA 256) (0, 0) _ hr Tryd.underlying104 rfl hi ?_) | (refine wpList_store_row rfl 104 (.tmp 0) (.tmp 77) rfl w.heap.size (tabA 256) rfl rfl 104 (tabA 256) hr hi rfl hone ?_))
      have hr2 : Row (wr.setRow w.heap.size (tabA 256)) w.heap.size 104 (tabA 256) := setRow_heap wr _ _ _ _ _ hr
      refine bodyPost_ret (results_cell_row rfl _ _ w.heap.size 104 (tabA 256) (0, 0) _ rfl hr2 Tryd.underlying104 rfl hi) rfl ⟨rfl, hb.trans ⟨rfl, rfl, rfl, by simp, fun k hk => setRow_other _ _ _ _ (by omega)⟩⟩
end Go.Proofs.YtpmbfcogkoiogaaDoor
end
section
namespace Go.Proofs.YtpmbfcogkoiogaaDoor
open Go.RowKit
/-- a class as a cell's value -/
def cv (c : Nat) : Value := .int .u8 (c : Int)
theorem index_u8 (w : World) (v : Value) (ps : List Nat) (x : Nat) (h : Rds w 1 v ps.length (ps.map cv)) :
    Calls Tryd.prog 142 #[v, .int .u8 x] w fun e w' => e = .returned (.int .i64 (indexI ps x)) ∧ w = w' := by
  obtain ⟨A, c, rfl, hc, hm, hl, hr⟩ := h
  unfold maxLen at hm
  go_enter Tryd.func142, Tryd.ntmps142
  go_wp2
  go_loop [8] (fun i => ∃ k : Nat, k ≤ ps.length ∧ i = .int .i64 k ∧ ∀ y ∈ ps.take k, y ≠ x) (fun i => ps.length - (intOf i).toNat)
  case atStart => exact ⟨0, Nat.zero_le _, rfl, by simp⟩
  case round =>
    obtain ⟨k, hk, rfl, hn⟩ := hrel
    have HN := Lib.hid hn
    clear hn
    by_cases hlt : k < ps.length
    · obtain ⟨b, o, rfl, hx⟩ := hr (by omega)
      obtain ⟨y, hy⟩ : ∃ y, ps[k]? = some y := ⟨_, List.getElem?_eq_getElem hlt⟩
      have g1 : w.cell? ⟨b, o + k, none⟩ = some (.int .u8 (y : Nat)) := hx k _ (by rw [List.getElem?_map, hy]; rfl)
      have HY := Lib.hid hy
      clear hx hy
      by_cases he : y = x
      · subst he
        go_wp2
        go_ret
        exact ⟨ret_int (indexI_hit HY.out HN.out).symm, rfl⟩
      · have t1 : ((x : Int) == (y : Int)) = false := by simp; omega
        have HE := Lib.hid he
        clear he
        go_wp2
        go_round
        case rel => exact ⟨k + 1, by omega, by go_num, all_snoc HY.out HN.out HE.out⟩
        case measure => simp [intOf]; omega
    · go_wp2
      go_ret
      exact ⟨ret_int (indexI_miss (all_of_take (by omega) HN.out)).symm, rfl⟩
theorem contains_u8 (w : World) (v : Value) (ps : List Nat) (x : Nat) (h : Rds w 1 v ps.length (ps.map cv)) :
    Calls Tryd.prog 133 #[v, .int .u8 x] w fun e w' => e = .returned (.bool (decide (x ∈ ps))) ∧ w = w' := by
  have H1 := Lib.hid (indexI_ge ps x)
  go_enter Tryd.func133, Tryd.ntmps133
  go_wp2_with (go_at_call 142; refine (index_u8 _ _ ps x h).mono ?_; rintro e w' ⟨rfl, rfl⟩)
  go_ret
  exact ⟨ret_bool H1.out, rfl⟩
set_option maxRecDepth 100000 in
theorem only_any (w : World) (s : List UInt8) (v : Value) (ps : List Nat) (h : Rds w 1 v ps.length (ps.map cv)) :
    Calls Tryd.prog 117 #[.string ⟨s.toArray⟩, v] w fun e w' => e = .returned (.bool (decide (onlyS s ps))) ∧ Below w.heap.size w w' := by
  by_cases h0 : s = []
  · subst h0
    go_enter Tryd.func117, Tryd.ntmps117
    go_wp2
    go_ret
    exact ⟨ret_dec (fun h => h.1 rfl), Below.refl _ _⟩
  · have hl0 : 0 < s.length := List.length_pos_iff.2 h0
    have hne : s.isEmpty = false := by simpa using h0
    by_cases h1 : 60 < s.length
    · have H0 := Lib.hid h0
      clear h0
      go_enter Tryd.func117, Tryd.ntmps117
      go_wp2
      go_ret
      exact ⟨ret_dec (fun h => by have := h.2.1; omega), Below.refl _ _⟩
    · have H0 := Lib.hid h0
      clear h0
      go_enter Tryd.func117, Tryd.ntmps117
      have hi : (Tryd.prog.info? 104).map (·.size) = some (tabA 256).size := by rw [tabA_size]; kernel_rfl
      have hone : (tabA 256).all (·.oneCell') = true := by kernel_rfl
      have hal : Tryd.prog.arrayLen 104 = 256 := by kernel_rfl
      have hzs : (Tryd.zeroCells104).size = (tabA 256).size := by kernel_rfl
      go_wp2_with (first | (go_at_call 72; refine (classes_any _).mono ?_; rintro e w1 ⟨rfl, hb1⟩) | (refine wpList_store_row rfl 104 (.tmp 5) (.tmp 14) rfl w1.heap.size (tabA 256) rfl rfl 104 Tryd.zeroCells104 (Row.new _ _ _) hi hzs hone ?_))
      obtain ⟨W, hW⟩ : ∃ W, W = (w1.alloc (.cells Tryd.zeroCells104 104)).setRow w1.heap.size (tabA 256) := ⟨_, rfl⟩
      rw [← hW]
      have hrow : Row W w1.heap.size 104 (tabA 256) := by rw [hW]; exact setRow_heap _ _ _ _ _ _ (Row.new _ _ _)
      have hB : Below w.heap.size w W := by
        rw [hW]
        exact (new_ hb1 _).trans ⟨rfl, rfl, rfl, by simp, fun k hk => setRow_other _ _ _ _ (by have := hb1.size; omega)⟩
      have hv := h.below hB
      clear hW h hi hone hzs hb1
      go_loop [17] (fun i => ∃ k : Nat, k ≤ s.length ∧ i = .int .i64 k ∧ ∀ b ∈ s.take k, cls b.toNat ∈ ps) (fun i => s.length - (intOf i).toNat)
      case atStart => exact ⟨0, Nat.zero_le _, rfl, by simp⟩
      case round =>
        obtain ⟨k, hk, rfl, hn⟩ := hrel
        have HN := Lib.hid hn
        clear hn
        by_cases hlt : k < s.length
        · obtain ⟨c, hce, hcl⟩ : ∃ c : Nat, (ByteArray.mk s.toArray)[k].toNat = c ∧ c = s[k].toNat := ⟨_, rfl, rfl⟩
          have HC := Lib.hid hcl
          have hc256 : c < 256 := by rw [hcl]; exact s[k].toNat_lt
          clear hcl
          have hcell : W.cell? ⟨w1.heap.size, c, none⟩ = some (.int .u8 (cls c : Nat)) := hrow.cell (by rw [tabA_at _ _ hc256, if_pos hc256])
          by_cases hin : cls c ∈ ps
          · have e1 : decide (cls c ∈ ps) = true := by simpa using hin
            have HIN := Lib.hid hin
            clear hin
            go_wp2_with (go_at_call 133; refine (contains_u8 _ _ ps (cls c) hv).mono ?_; rintro e w' ⟨rfl, rfl⟩)
            go_round
            case rel => exact ⟨k + 1, by omega, by go_num, all_snoc (List.getElem?_eq_getElem hlt) HN.out (by rw [← HC.out]; exact HIN.out)⟩
            case measure => simp [intOf]; omega
          · have e1 : decide (cls c ∈ ps) = false := by simpa using hin
            have HIN := Lib.hid hin
            clear hin
            go_wp2_with (go_at_call 133; refine (contains_u8 _ _ ps (cls c) hv).mono ?_; rintro e w' ⟨rfl, rfl⟩)
            go_ret
            exact ⟨ret_dec (fun h => HIN.out (by rw [HC.out]; exact h.2.2 s[k] (List.getElem_mem hlt))), hB⟩
        · have HA := Lib.hid (all_of_take (by omega) HN.out)
          go_wp2
          go_ret
          exact ⟨ret_dec_t ⟨H0.out, by omega, HA.out⟩, hB⟩
theorem isLabel_any (w : World) (s : List UInt8) :
    Calls Tryd.prog 76 #[.string ⟨s.toArray⟩] w fun e w' => e = .returned (.bool (decide (onlyS s [2]))) ∧ Below w.heap.size w w' := by
  go_enter Tryd.func76, Tryd.ntmps76
  go_wp2_with (go_at_call 117; refine (only_any _ s _ [2] (Rds.lit (size := 1) w 5 #[.int .u8 2] 1 rfl (by decide))).mono ?_; rintro e w' ⟨rfl, hb⟩)
  go_ret
  exact ⟨rfl, then_ (new_ (Below.refl _ _) _) hb⟩
set_option maxRecDepth 100000 in
set_option maxHeartbeats 4000000 in
theorem ref_isLabel (w : World) (s : List UInt8) (hs : s.length ≤ maxLen) :
    Calls Tryd.prog 82 #[.string ⟨s.toArray⟩] w fun e w' => e = .returned (.bool (decide (onlyS s [2]))) ∧ w = w' := by
  unfold maxLen at hs
  go_enter Tryd.func82, Tryd.ntmps82
  go_wp2
  go_loop [3] (fun i => ∃ k : Nat, k ≤ s.length ∧ i = .int .i64 k ∧ ∀ b ∈ s.take k, cls b.toNat = 2) (fun i => s.length - (intOf i).toNat)
  case atStart => exact ⟨0, Nat.zero_le _, rfl, by simp⟩
  case round =>
    obtain ⟨k, hk, rfl, hn⟩ := hrel
    have HN := Lib.hid hn
    clear hn
    by_cases hlt : k < s.length
    · obtain ⟨c, hce, hcl⟩ : ∃ c : Nat, (ByteArray.mk s.toArray)[k].toNat = c ∧ c = s[k].toNat := ⟨_, rfl, rfl⟩
      have HC := Lib.hid hcl
      have hc256 : c < 256 := by rw [hcl]; exact s[k].toNat_lt
      clear hcl
      rcases (show (0 ≤ c ∧ c ≤ 44) ∨ (45 ≤ c ∧ c ≤ 45) ∨ (46 ≤ c ∧ c ≤ 46) ∨ (47 ≤ c ∧ c ≤ 47) ∨ (48 ≤ c ∧ c ≤ 57) ∨ (58 ≤ c ∧ c ≤ 64) ∨ (65 ≤ c ∧ c ≤ 90) ∨ (91 ≤ c ∧ c ≤ 94) ∨ (95 ≤ c ∧ c ≤ 95) ∨ (96 ≤ c ∧ c ≤ 96) ∨ (97 ≤ c ∧ c ≤ 122) ∨ (123 ≤ c ∧ c ≤ 255) from by omega) with ⟨a1, a2⟩ | ⟨a1, a2⟩ | ⟨a1, a2⟩ | ⟨a1, a2⟩ | ⟨a1, a2⟩ | ⟨a1, a2⟩ | ⟨a1, a2⟩ | ⟨a1, a2⟩ | ⟨a1, a2⟩ | ⟨a1, a2⟩ | ⟨a1, a2⟩ | ⟨a1, a2⟩
      · have HK := Lib.hid (show ¬ cls c = 2 by rw [cls_two]; omega)
        have b45 : ((c : Int) != 45) = true := by simp; omega
        have b95 : ((c : Int) != 95) = true := by simp; omega
        have b46 : ((c : Int) != 46) = true := by simp; omega
        have g97 : decide (97 ≤ (c : Int)) = false := by simp; omega
        have g65 : decide (65 ≤ (c : Int)) = false := by simp; omega
        have l122 : decide ((c : Int) ≤ 122) = true := by simp; omega
        have l90 : decide ((c : Int) ≤ 90) = true := by simp; omega
        have s48 : decide ((c : Int) < 48) = true := by simp; omega
        have s57 : decide (57 < (c : Int)) = false := by simp; omega
        clear a1 a2 hc256
        go_wp2
        go_ret
        exact ⟨ret_dec (fun h => HK.out (by have h2 := h.2.2 s[k] (List.getElem_mem hlt); rw [← HC.out] at h2; simpa using h2)), rfl⟩
      · have HK := Lib.hid (show cls c = 2 by rw [cls_two]; omega)
        have b45 : ((c : Int) != 45) = false := by simp; omega
        have b95 : ((c : Int) != 95) = true := by simp; omega
        have b46 : ((c : Int) != 46) = true := by simp; omega
        have g97 : decide (97 ≤ (c : Int)) = false := by simp; omega
        have g65 : decide (65 ≤ (c : Int)) = false := by simp; omega
        have l122 : decide ((c : Int) ≤ 122) = true := by simp; omega
        have l90 : decide ((c : Int) ≤ 90) = true := by simp; omega
        have s48 : decide ((c : Int) < 48) = true := by simp; omega
        have s57 : decide (57 < (c : Int)) = false := by simp; omega
        clear a1 a2 hc256
        go_wp2
        go_round
        case rel => exact ⟨k + 1, by omega, by go_num, all_snoc (List.getElem?_eq_getElem hlt) HN.out (by rw [← HC.out]; exact HK.out)⟩
        case measure => simp [intOf]; omega
      · have HK := Lib.hid (show cls c = 2 by rw [cls_two]; omega)
        have b45 : ((c : Int) != 45) = true := by simp; omega
        have b95 : ((c : Int) != 95) = true := by simp; omega
        have b46 : ((c : Int) != 46) = false := by simp; omega
        have g97 : decide (97 ≤ (c : Int)) = false := by simp; omega
        have g65 : decide (65 ≤ (c : Int)) = false := by simp; omega
        have l122 : decide ((c : Int) ≤ 122) = true := by simp; omega
        have l90 : decide ((c : Int) ≤ 90) = true := by simp; omega
        have s48 : decide ((c : Int) < 48) = true := by simp; omega
        have s57 : decide (57 < (c : Int)) = false := by simp; omega
        clear a1 a2 hc256
        go_wp2
        go_round
        case rel => exact ⟨k + 1, by omega, by go_num, all_snoc (List.getElem?_eq_getElem hlt) HN.out (by rw [← HC.out]; exact HK.out)⟩
        case measure => simp [intOf]; omega
      · have HK := Lib.hid (show ¬ cls c = 2 by rw [cls_two]; omega)
        have b45 : ((c : Int) != 45) = true := by simp; omega
        have b95 : ((c : Int) != 95) = true := by simp; omega
        have b46 : ((c : Int) != 46) = true := by simp; omega
        have g97 : decide (97 ≤ (c : Int)) = false := by simp; omega
        have g65 : decide (65 ≤ (c : Int)) = false := by simp; omega
        have l122 : decide ((c : Int) ≤ 122) = true := by simp; omega
        have l90 : decide ((c : Int) ≤ 90) = true := by simp; omega
        have s48 : decide ((c : Int) < 48) = true := by simp; omega
        have s57 : decide (57 < (c : Int)) = false := by simp; omega
        clear a1 a2 hc256
        go_wp2
        go_ret
        exact ⟨ret_dec (fun h => HK.out (by have h2 := h.2.2 s[k] (List.getElem_mem hlt); rw [← HC.out] at h2; simpa using h2)), rfl⟩
      · have HK := Lib.hid (show cls c = 2 by rw [cls_two]; omega)
        have b45 : ((c : Int) != 45) = true := by simp; omega
        have b95 : ((c : Int) != 95) = true := by simp; omega
        have b46 : ((c : Int) != 46) = true := by simp; omega
        have g97 : decide (97 ≤ (c : Int)) = false := by simp; omega
        have g65 : decide (65 ≤ (c : Int)) = false := by simp; omega
        have l122 : decide ((c : Int) ≤ 122) = true := by simp; omega
        have l90 : decide ((c : Int) ≤ 90) = true := by simp; omega
        have s48 : decide ((c : Int) < 48) = false := by simp; omega
        have s57 : decide (57 < (c : Int)) = false := by simp; omega
        clear a1 a2 hc256
        go_wp2
        go_round
        case rel => exact ⟨k + 1, by omega, by go_num, all_snoc (List.getElem?_eq_getElem hlt) HN.out (by rw [← HC.out]; exact HK.out)⟩
        case measure => simp [intOf]; omega
      · have HK := Lib.hid (show ¬ cls c = 2 by rw [cls_two]; omega)
        have b45 : ((c : Int) != 45) = true := by simp; omega
        have b95 : ((c : Int) != 95) = true := by simp; omega
        have b46 : ((c : Int) != 46) = true := by simp; omega
        have g97 : decide (97 ≤ (c : Int)) = false := by simp; omega
        have g65 : decide (65 ≤ (c : Int)) = false := by simp; omega
        have l122 : decide ((c : Int) ≤ 122) = true := by simp; omega
        have l90 : decide ((c : Int) ≤ 90) = true := by simp; omega
        have s48 : decide ((c : Int) < 48) = false := by simp; omega
        have s57 : decide (57 < (c : Int)) = true := by simp; omega
        clear a1 a2 hc256
        go_wp2
        go_ret
        exact ⟨ret_dec (fun h => HK.out (by have h2 := h.2.2 s[k] (List.getElem_mem hlt); rw [← HC.out] at h2; simpa using h2)), rfl⟩
      · have HK := Lib.hid (show cls c = 2 by rw [cls_two]; omega)
        have b45 : ((c : Int) != 45) = true := by simp; omega
        have b95 : ((c : Int) != 95) = true := by simp; omega
        have b46 : ((c : Int) != 46) = true := by simp; omega
        have g97 : decide (97 ≤ (c : Int)) = false := by simp; omega
        have g65 : decide (65 ≤ (c : Int)) = true := by simp; omega
        have l122 : decide ((c : Int) ≤ 122) = true := by simp; omega
        have l90 : decide ((c : Int) ≤ 90) = true := by simp; omega
        have s48 : decide ((c : Int) < 48) = false := by simp; omega
        have s57 : decide (57 < (c : Int)) = true := by simp; omega
        clear a1 a2 hc256
        go_wp2
        go_round
        case rel => exact ⟨k + 1, by omega, by go_num, all_snoc (List.getElem?_eq_getElem hlt) HN.out (by rw [← HC.out]; exact HK.out)⟩
        case measure => simp [intOf]; omega
      · have HK := Lib.hid (show ¬ cls c = 2 by rw [cls_two]; omega)
        have b45 : ((c : Int) != 45) = true := by simp; omega
        have b95 : ((c : Int) != 95) = true := by simp; omega
        have b46 : ((c : Int) != 46) = true := by simp; omega
        have g97 : decide (97 ≤ (c : Int)) = false := by simp; omega
        have g65 : decide (65 ≤ (c : Int)) = true := by simp; omega
        have l122 : decide ((c : Int) ≤ 122) = true := by simp; omega
        have l90 : decide ((c : Int) ≤ 90) = false := by simp; omega
        have s48 : decide ((c : Int) < 48) = false := by simp; omega
        have s57 : decide (57 < (c : Int)) = true := by simp; omega
        clear a1 a2 hc256
        go_wp2
        go_ret
        exact ⟨ret_dec (fun h => HK.out (by have h2 := h.2.2 s[k] (List.getElem_mem hlt); rw [← HC.out] at h2; simpa using h2)), rfl⟩
      · have HK := Lib.hid (show cls c = 2 by rw [cls_two]; omega)
        have b45 : ((c : Int) != 45) = true := by simp; omega
        have b95 : ((c : Int) != 95) = false := by simp; omega
        have b46 : ((c : Int) != 46) = true := by simp; omega
        have g97 : decide (97 ≤ (c : Int)) = false := by simp; omega
        have g65 : decide (65 ≤ (c : Int)) = true := by simp; omega
        have l122 : decide ((c : Int) ≤ 122) = true := by simp; omega
        have l90 : decide ((c : Int) ≤ 90) = false := by simp; omega
        have s48 : decide ((c : Int) < 48) = false := by simp; omega
        have s57 : decide (57 < (c : Int)) = true := by simp; omega
        clear a1 a2 hc256
        go_wp2
        go_round
        case rel => exact ⟨k + 1, by omega, by go_num, all_snoc (List.getElem?_eq_getElem hlt) HN.out (by rw [← HC.out]; exact HK.out)⟩
        case measure => simp [intOf]; omega
      · have HK := Lib.hid (show ¬ cls c = 2 by rw [cls_two]; omega)
        have b45 : ((c : Int) != 45) = true := by simp; omega
        have b95 : ((c : Int) != 95) = true := by simp; omega
        have b46 : ((c : Int) != 46) = true := by simp; omega
        have g97 : decide (97 ≤ (c : Int)) = false := by simp; omega
        have g65 : decide (65 ≤ (c : Int)) = true := by simp; omega
        have l122 : decide ((c : Int) ≤ 122) = true := by simp; omega
        have l90 : decide ((c : Int) ≤ 90) = false := by simp; omega
        have s48 : decide ((c : Int) < 48) = false := by simp; omega
        have s57 : decide (57 < (c : Int)) = true := by simp; omega
        clear a1 a2 hc256
        go_wp2
        go_ret
        exact ⟨ret_dec (fun h => HK.out (by have h2 := h.2.2 s[k] (List.getElem_mem hlt); rw [← HC.out] at h2; simpa using h2)), rfl⟩
      · have HK := Lib.hid (show cls c = 2 by rw [cls_two]; omega)
        have b45 : ((c : Int) != 45) = true := by simp; omega
        have b95 : ((c : Int) != 95) = true := by simp; omega
        have b46 : ((c : Int) != 46) = true := by simp; omega
        have g97 : decide (97 ≤ (c : Int)) = true := by simp; omega
        have g65 : decide (65 ≤ (c : Int)) = true := by simp; omega
        have l122 : decide ((c : Int) ≤ 122) = true := by simp; omega
        have l90 : decide ((c : Int) ≤ 90) = false := by simp; omega
        have s48 : decide ((c : Int) < 48) = false := by simp; omega
        have s57 : decide (57 < (c : Int)) = true := by simp; omega
        clear a1 a2 hc256
        go_wp2
        go_round
        case rel => exact ⟨k + 1, by omega, by go_num, all_snoc (List.getElem?_eq_getElem hlt) HN.out (by rw [← HC.out]; exact HK.out)⟩
        case measure => simp [intOf]; omega
      · have HK := Lib.hid (show ¬ cls c = 2 by rw [cls_two]; omega)
        have b45 : ((c : Int) != 45) = true := by simp; omega
        have b95 : ((c : Int) != 95) = true := by simp; omega
        have b46 : ((c : Int) != 46) = true := by simp; omega
        have g97 : decide (97 ≤ (c : Int)) = true := by simp; omega
        have g65 : decide (65 ≤ (c : Int)) = true := by simp; omega
        have l122 : decide ((c : Int) ≤ 122) = false := by simp; omega
        have l90 : decide ((c : Int) ≤ 90) = false := by simp; omega
        have s48 : decide ((c : Int) < 48) = false := by simp; omega
        have s57 : decide (57 < (c : Int)) = true := by simp; omega
        clear a1 a2 hc256
        go_wp2
        go_ret
        exact ⟨ret_dec (fun h => HK.out (by have h2 := h.2.2 s[k] (List.getElem_mem hlt); rw [← HC.out] at h2; simpa using h2)), rfl⟩
    · have HA := Lib.hid (all_of_take (by omega) HN.out)
      by_cases h0 : s = []
      · subst h0
        go_wp2
        go_ret
        exact ⟨ret_dec fun h => h.1 rfl, rfl⟩
      · have hne : s.isEmpty = false := by simpa using h0
        have H0 := Lib.hid h0
        clear h0
        by_cases h1 : s.length ≤ 60
        · have e60 : decide ((s.length : Int) ≤ 60) = true := by simp; omega
          go_wp2
          go_ret
          exact ⟨ret_dec_t ⟨H0.out, h1, fun b hb => by rw [HA.out b hb]; simp⟩, rfl⟩
        · have e60 : decide ((s.length : Int) ≤ 60) = false := by simp; omega
          go_wp2
          go_ret
          exact ⟨ret_dec fun h => h1 h.2.1, rfl⟩
end Go.Proofs.YtpmbfcogkoiogaaDoor
end
