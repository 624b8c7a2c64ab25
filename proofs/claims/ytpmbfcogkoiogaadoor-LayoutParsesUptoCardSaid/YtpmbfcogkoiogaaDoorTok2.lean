/- labels: slices.Index and Contains of bytes, token.only, IsLabel -/
import Derived.Test.YtpmbfcogkoiogaaDoorTok1
import Derived.RegionTactic
namespace Go.Proofs.YtpmbfcogkoiogaaDoor
open Go.RowKit
/-- a class as a cell's value -/
def cv (c : Nat) : Value := .int .u8 (c : Int)
theorem index_u8 (w : World) (v : Value) (ps : List Nat) (x : Nat) (h : Rds w 1 v ps.length (ps.map cv)) :
    Calls Tryd.prog 142 #[v, .int .u8 x] w fun e w' => e = .returned (.int .i64 (indexI ps x)) ∧ w = w' := by
  obtain ⟨A, c, rfl, hc, hm, hl, hr⟩ := h
  unfold maxLen at hm
  go_enter Tryd.func142, Tryd.ntmps142
  go_wp2
  go_loop [8] (fun i => ∃ k : Nat, k ≤ ps.length ∧ i = .int .i64 k ∧ ∀ y ∈ ps.take k, y ≠ x) (fun i => ps.length - (intOf i).toNat)
  case atStart => exact ⟨0, Nat.zero_le _, rfl, by simp⟩
  case round =>
    obtain ⟨k, hk, rfl, hn⟩ := hrel
    have HN := Lib.hid hn
    clear hn
    by_cases hlt : k < ps.length
    · obtain ⟨b, o, rfl, hx⟩ := hr (by omega)
      obtain ⟨y, hy⟩ : ∃ y, ps[k]? = some y := ⟨_, List.getElem?_eq_getElem hlt⟩
      have g1 : w.cell? ⟨b, o + k, none⟩ = some (.int .u8 (y : Nat)) := hx k _ (by rw [List.getElem?_map, hy]; rfl)
      have HY := Lib.hid hy
      clear hx hy
      by_cases he : y = x
      · subst he
        go_wp2
        go_ret
        exact ⟨ret_int (indexI_hit HY.out HN.out).symm, rfl⟩
      · have t1 : ((x : Int) == (y : Int)) = false := by simp; omega
        have HE := Lib.hid he
        clear he
        go_wp2
        go_round
        case rel => exact ⟨k + 1, by omega, by go_num, all_snoc HY.out HN.out HE.out⟩
        case measure => simp [intOf]; omega
    · go_wp2
      go_ret
      exact ⟨ret_int (indexI_miss (all_of_take (by omega) HN.out)).symm, rfl⟩
theorem contains_u8 (w : World) (v : Value) (ps : List Nat) (x : Nat) (h : Rds w 1 v ps.length (ps.map cv)) :
    Calls Tryd.prog 133 #[v, .int .u8 x] w fun e w' => e = .returned (.bool (decide (x ∈ ps))) ∧ w = w' := by
  have H1 := Lib.hid (indexI_ge ps x)
  go_enter Tryd.func133, Tryd.ntmps133
  go_wp2_with (go_at_call 142; refine (index_u8 _ _ ps x h).mono ?_; rintro e w' ⟨rfl, rfl⟩)
  go_ret
  exact ⟨ret_bool H1.out, rfl⟩
set_option maxRecDepth 100000 in
theorem only_any (w : World) (s : List UInt8) (v : Value) (ps : List Nat) (h : Rds w 1 v ps.length (ps.map cv)) :
    Calls Tryd.prog 117 #[.string ⟨s.toArray⟩, v] w fun e w' => e = .returned (.bool (decide (onlyS s ps))) ∧ Below w.heap.size w w' := by
  by_cases h0 : s = []
  · subst h0
    go_enter Tryd.func117, Tryd.ntmps117
    go_wp2
    go_ret
    exact ⟨ret_dec (fun h => h.1 rfl), Below.refl _ _⟩
  · have hl0 : 0 < s.length := List.length_pos_iff.2 h0
    have hne : s.isEmpty = false := by simpa using h0
    by_cases h1 : 60 < s.length
    · have H0 := Lib.hid h0
      clear h0
      go_enter Tryd.func117, Tryd.ntmps117
      go_wp2
      go_ret
      exact ⟨ret_dec (fun h => by have := h.2.1; omega), Below.refl _ _⟩
    · have H0 := Lib.hid h0
      clear h0
      go_enter Tryd.func117, Tryd.ntmps117
      have hi : (Tryd.prog.info? 104).map (·.size) = some (tabA 256).size := by rw [tabA_size]; kernel_rfl
      have hone : (tabA 256).all (·.oneCell') = true := by kernel_rfl
      have hal : Tryd.prog.arrayLen 104 = 256 := by kernel_rfl
      have hzs : (Tryd.zeroCells104).size = (tabA 256).size := by kernel_rfl
      go_wp2_with (first | (go_at_call 72; refine (classes_any _).mono ?_; rintro e w1 ⟨rfl, hb1⟩) | (refine wpList_store_row rfl 104 (.tmp 5) (.tmp 14) rfl w1.heap.size (tabA 256) rfl rfl 104 Tryd.zeroCells104 (Row.new _ _ _) hi hzs hone ?_))
      obtain ⟨W, hW⟩ : ∃ W, W = (w1.alloc (.cells Tryd.zeroCells104 104)).setRow w1.heap.size (tabA 256) := ⟨_, rfl⟩
      rw [← hW]
      have hrow : Row W w1.heap.size 104 (tabA 256) := by rw [hW]; exact setRow_heap _ _ _ _ _ _ (Row.new _ _ _)
      have hB : Below w.heap.size w W := by
        rw [hW]
        exact (new_ hb1 _).trans ⟨rfl, rfl, rfl, by simp, fun k hk => setRow_other _ _ _ _ (by have := hb1.size; omega)⟩
      have hv := h.below hB
      clear hW h hi hone hzs hb1
      go_loop [17] (fun i => ∃ k : Nat, k ≤ s.length ∧ i = .int .i64 k ∧ ∀ b ∈ s.take k, cls b.toNat ∈ ps) (fun i => s.length - (intOf i).toNat)
      case atStart => exact ⟨0, Nat.zero_le _, rfl, by simp⟩
      case round =>
        obtain ⟨k, hk, rfl, hn⟩ := hrel
        have HN := Lib.hid hn
        clear hn
        by_cases hlt : k < s.length
        · obtain ⟨c, hce, hcl⟩ : ∃ c : Nat, (ByteArray.mk s.toArray)[k].toNat = c ∧ c = s[k].toNat := ⟨_, rfl, rfl⟩
          have HC := Lib.hid hcl
          have hc256 : c < 256 := by rw [hcl]; exact s[k].toNat_lt
          clear hcl
          have hcell : W.cell? ⟨w1.heap.size, c, none⟩ = some (.int .u8 (cls c : Nat)) := hrow.cell (by rw [tabA_at _ _ hc256, if_pos hc256])
          by_cases hin : cls c ∈ ps
          · have e1 : decide (cls c ∈ ps) = true := by simpa using hin
            have HIN := Lib.hid hin
            clear hin
            go_wp2_with (go_at_call 133; refine (contains_u8 _ _ ps (cls c) hv).mono ?_; rintro e w' ⟨rfl, rfl⟩)
            go_round
            case rel => exact ⟨k + 1, by omega, by go_num, all_snoc (List.getElem?_eq_getElem hlt) HN.out (by rw [← HC.out]; exact HIN.out)⟩
            case measure => simp [intOf]; omega
          · have e1 : decide (cls c ∈ ps) = false := by simpa using hin
            have HIN := Lib.hid hin
            clear hin
            go_wp2_with (go_at_call 133; refine (contains_u8 _ _ ps (cls c) hv).mono ?_; rintro e w' ⟨rfl, rfl⟩)
            go_ret
            exact ⟨ret_dec (fun h => HIN.out (by rw [HC.out]; exact h.2.2 s[k] (List.getElem_mem hlt))), hB⟩
        · have HA := Lib.hid (all_of_take (by omega) HN.out)
          go_wp2
          go_ret
          exact ⟨ret_dec_t ⟨H0.out, by omega, HA.out⟩, hB⟩
theorem isLabel_any (w : World) (s : List UInt8) :
    Calls Tryd.prog 76 #[.string ⟨s.toArray⟩] w fun e w' => e = .returned (.bool (decide (onlyS s [2]))) ∧ Below w.heap.size w w' := by
  go_enter Tryd.func76, Tryd.ntmps76
  go_wp2_with (go_at_call 117; refine (only_any _ s _ [2] (Rds.lit (size := 1) w 5 #[.int .u8 2] 1 rfl (by decide))).mono ?_; rintro e w' ⟨rfl, hb⟩)
  go_ret
  exact ⟨rfl, then_ (new_ (Below.refl _ _) _) hb⟩
set_option maxRecDepth 100000 in
set_option maxHeartbeats 4000000 in
theorem ref_isLabel (w : World) (s : List UInt8) (hs : s.length ≤ maxLen) :
    Calls Tryd.prog 82 #[.string ⟨s.toArray⟩] w fun e w' => e = .returned (.bool (decide (onlyS s [2]))) ∧ w = w' := by
  unfold maxLen at hs
  go_enter Tryd.func82, Tryd.ntmps82
  go_wp2
  go_loop [3] (fun i => ∃ k : Nat, k ≤ s.length ∧ i = .int .i64 k ∧ ∀ b ∈ s.take k, cls b.toNat = 2) (fun i => s.length - (intOf i).toNat)
  case atStart => exact ⟨0, Nat.zero_le _, rfl, by simp⟩
  case round =>
    obtain ⟨k, hk, rfl, hn⟩ := hrel
    have HN := Lib.hid hn
    clear hn
    by_cases hlt : k < s.length
    · obtain ⟨c, hce, hcl⟩ : ∃ c : Nat, (ByteArray.mk s.toArray)[k].toNat = c ∧ c = s[k].toNat := ⟨_, rfl, rfl⟩
      have HC := Lib.hid hcl
      have hc256 : c < 256 := by rw [hcl]; exact s[k].toNat_lt
      clear hcl
      rcases (show (0 ≤ c ∧ c ≤ 44) ∨ (45 ≤ c ∧ c ≤ 45) ∨ (46 ≤ c ∧ c ≤ 46) ∨ (47 ≤ c ∧ c ≤ 47) ∨ (48 ≤ c ∧ c ≤ 57) ∨ (58 ≤ c ∧ c ≤ 64) ∨ (65 ≤ c ∧ c ≤ 90) ∨ (91 ≤ c ∧ c ≤ 94) ∨ (95 ≤ c ∧ c ≤ 95) ∨ (96 ≤ c ∧ c ≤ 96) ∨ (97 ≤ c ∧ c ≤ 122) ∨ (123 ≤ c ∧ c ≤ 255) from by omega) with ⟨a1, a2⟩ | ⟨a1, a2⟩ | ⟨a1, a2⟩ | ⟨a1, a2⟩ | ⟨a1, a2⟩ | ⟨a1, a2⟩ | ⟨a1, a2⟩ | ⟨a1, a2⟩ | ⟨a1, a2⟩ | ⟨a1, a2⟩ | ⟨a1, a2⟩ | ⟨a1, a2⟩
      · have HK := Lib.hid (show ¬ cls c = 2 by rw [cls_two]; omega)
        have b45 : ((c : Int) != 45) = true := by simp; omega
        have b95 : ((c : Int) != 95) = true := by simp; omega
        have b46 : ((c : Int) != 46) = true := by simp; omega
        have g97 : decide (97 ≤ (c : Int)) = false := by simp; omega
        have g65 : decide (65 ≤ (c : Int)) = false := by simp; omega
        have l122 : decide ((c : Int) ≤ 122) = true := by simp; omega
        have l90 : decide ((c : Int) ≤ 90) = true := by simp; omega
        have s48 : decide ((c : Int) < 48) = true := by simp; omega
        have s57 : decide (57 < (c : Int)) = false := by simp; omega
        clear a1 a2 hc256
        go_wp2
        go_ret
        exact ⟨ret_dec (fun h => HK.out (by have h2 := h.2.2 s[k] (List.getElem_mem hlt); rw [← HC.out] at h2; simpa using h2)), rfl⟩
      · have HK := Lib.hid (show cls c = 2 by rw [cls_two]; omega)
        have b45 : ((c : Int) != 45) = false := by simp; omega
        have b95 : ((c : Int) != 95) = true := by simp; omega
        have b46 : ((c : Int) != 46) = true := by simp; omega
        have g97 : decide (97 ≤ (c : Int)) = false := by simp; omega
        have g65 : decide (65 ≤ (c : Int)) = false := by simp; omega
        have l122 : decide ((c : Int) ≤ 122) = true := by simp; omega
        have l90 : decide ((c : Int) ≤ 90) = true := by simp; omega
        have s48 : decide ((c : Int) < 48) = true := by simp; omega
        have s57 : decide (57 < (c : Int)) = false := by simp; omega
        clear a1 a2 hc256
        go_wp2
        go_round
        case rel => exact ⟨k + 1, by omega, by go_num, all_snoc (List.getElem?_eq_getElem hlt) HN.out (by rw [← HC.out]; exact HK.out)⟩
        case measure => simp [intOf]; omega
      · have HK := Lib.hid (show cls c = 2 by rw [cls_two]; omega)
        have b45 : ((c : Int) != 45) = true := by simp; omega
        have b95 : ((c : Int) != 95) = true := by simp; omega
        have b46 : ((c : Int) != 46) = false := by simp; omega
        have g97 : decide (97 ≤ (c : Int)) = false := by simp; omega
        have g65 : decide (65 ≤ (c : Int)) = false := by simp; omega
        have l122 : decide ((c : Int) ≤ 122) = true := by simp; omega
        have l90 : decide ((c : Int) ≤ 90) = true := by simp; omega
        have s48 : decide ((c : Int) < 48) = true := by simp; omega
        have s57 : decide (57 < (c : Int)) = false := by simp; omega
        clear a1 a2 hc256
        go_wp2
        go_round
        case rel => exact ⟨k + 1, by omega, by go_num, all_snoc (List.getElem?_eq_getElem hlt) HN.out (by rw [← HC.out]; exact HK.out)⟩
        case measure => simp [intOf]; omega
      · have HK := Lib.hid (show ¬ cls c = 2 by rw [cls_two]; omega)
        have b45 : ((c : Int) != 45) = true := by simp; omega
        have b95 : ((c : Int) != 95) = true := by simp; omega
        have b46 : ((c : Int) != 46) = true := by simp; omega
        have g97 : decide (97 ≤ (c : Int)) = false := by simp; omega
        have g65 : decide (65 ≤ (c : Int)) = false := by simp; omega
        have l122 : decide ((c : Int) ≤ 122) = true := by simp; omega
        have l90 : decide ((c : Int) ≤ 90) = true := by simp; omega
        have s48 : decide ((c : Int) < 48) = true := by simp; omega
        have s57 : decide (57 < (c : Int)) = false := by simp; omega
        clear a1 a2 hc256
        go_wp2
        go_ret
        exact ⟨ret_dec (fun h => HK.out (by have h2 := h.2.2 s[k] (List.getElem_mem hlt); rw [← HC.out] at h2; simpa using h2)), rfl⟩
      · have HK := Lib.hid (show cls c = 2 by rw [cls_two]; omega)
        have b45 : ((c : Int) != 45) = true := by simp; omega
        have b95 : ((c : Int) != 95) = true := by simp; omega
        have b46 : ((c : Int) != 46) = true := by simp; omega
        have g97 : decide (97 ≤ (c : Int)) = false := by simp; omega
        have g65 : decide (65 ≤ (c : Int)) = false := by simp; omega
        have l122 : decide ((c : Int) ≤ 122) = true := by simp; omega
        have l90 : decide ((c : Int) ≤ 90) = true := by simp; omega
        have s48 : decide ((c : Int) < 48) = false := by simp; omega
        have s57 : decide (57 < (c : Int)) = false := by simp; omega
        clear a1 a2 hc256
        go_wp2
        go_round
        case rel => exact ⟨k + 1, by omega, by go_num, all_snoc (List.getElem?_eq_getElem hlt) HN.out (by rw [← HC.out]; exact HK.out)⟩
        case measure => simp [intOf]; omega
      · have HK := Lib.hid (show ¬ cls c = 2 by rw [cls_two]; omega)
        have b45 : ((c : Int) != 45) = true := by simp; omega
        have b95 : ((c : Int) != 95) = true := by simp; omega
        have b46 : ((c : Int) != 46) = true := by simp; omega
        have g97 : decide (97 ≤ (c : Int)) = false := by simp; omega
        have g65 : decide (65 ≤ (c : Int)) = false := by simp; omega
        have l122 : decide ((c : Int) ≤ 122) = true := by simp; omega
        have l90 : decide ((c : Int) ≤ 90) = true := by simp; omega
        have s48 : decide ((c : Int) < 48) = false := by simp; omega
        have s57 : decide (57 < (c : Int)) = true := by simp; omega
        clear a1 a2 hc256
        go_wp2
        go_ret
        exact ⟨ret_dec (fun h => HK.out (by have h2 := h.2.2 s[k] (List.getElem_mem hlt); rw [← HC.out] at h2; simpa using h2)), rfl⟩
      · have HK := Lib.hid (show cls c = 2 by rw [cls_two]; omega)
        have b45 : ((c : Int) != 45) = true := by simp; omega
        have b95 : ((c : Int) != 95) = true := by simp; omega
        have b46 : ((c : Int) != 46) = true := by simp; omega
        have g97 : decide (97 ≤ (c : Int)) = false := by simp; omega
        have g65 : decide (65 ≤ (c : Int)) = true := by simp; omega
        have l122 : decide ((c : Int) ≤ 122) = true := by simp; omega
        have l90 : decide ((c : Int) ≤ 90) = true := by simp; omega
        have s48 : decide ((c : Int) < 48) = false := by simp; omega
        have s57 : decide (57 < (c : Int)) = true := by simp; omega
        clear a1 a2 hc256
        go_wp2
        go_round
        case rel => exact ⟨k + 1, by omega, by go_num, all_snoc (List.getElem?_eq_getElem hlt) HN.out (by rw [← HC.out]; exact HK.out)⟩
        case measure => simp [intOf]; omega
      · have HK := Lib.hid (show ¬ cls c = 2 by rw [cls_two]; omega)
        have b45 : ((c : Int) != 45) = true := by simp; omega
        have b95 : ((c : Int) != 95) = true := by simp; omega
        have b46 : ((c : Int) != 46) = true := by simp; omega
        have g97 : decide (97 ≤ (c : Int)) = false := by simp; omega
        have g65 : decide (65 ≤ (c : Int)) = true := by simp; omega
        have l122 : decide ((c : Int) ≤ 122) = true := by simp; omega
        have l90 : decide ((c : Int) ≤ 90) = false := by simp; omega
        have s48 : decide ((c : Int) < 48) = false := by simp; omega
        have s57 : decide (57 < (c : Int)) = true := by simp; omega
        clear a1 a2 hc256
        go_wp2
        go_ret
        exact ⟨ret_dec (fun h => HK.out (by have h2 := h.2.2 s[k] (List.getElem_mem hlt); rw [← HC.out] at h2; simpa using h2)), rfl⟩
      · have HK := Lib.hid (show cls c = 2 by rw [cls_two]; omega)
        have b45 : ((c : Int) != 45) = true := by simp; omega
        have b95 : ((c : Int) != 95) = false := by simp; omega
        have b46 : ((c : Int) != 46) = true := by simp; omega
        have g97 : decide (97 ≤ (c : Int)) = false := by simp; omega
        have g65 : decide (65 ≤ (c : Int)) = true := by simp; omega
        have l122 : decide ((c : Int) ≤ 122) = true := by simp; omega
        have l90 : decide ((c : Int) ≤ 90) = false := by simp; omega
        have s48 : decide ((c : Int) < 48) = false := by simp; omega
        have s57 : decide (57 < (c : Int)) = true := by simp; omega
        clear a1 a2 hc256
        go_wp2
        go_round
        case rel => exact ⟨k + 1, by omega, by go_num, all_snoc (List.getElem?_eq_getElem hlt) HN.out (by rw [← HC.out]; exact HK.out)⟩
        case measure => simp [intOf]; omega
      · have HK := Lib.hid (show ¬ cls c = 2 by rw [cls_two]; omega)
        have b45 : ((c : Int) != 45) = true := by simp; omega
        have b95 : ((c : Int) != 95) = true := by simp; omega
        have b46 : ((c : Int) != 46) = true := by simp; omega
        have g97 : decide (97 ≤ (c : Int)) = false := by simp; omega
        have g65 : decide (65 ≤ (c : Int)) = true := by simp; omega
        have l122 : decide ((c : Int) ≤ 122) = true := by simp; omega
        have l90 : decide ((c : Int) ≤ 90) = false := by simp; omega
        have s48 : decide ((c : Int) < 48) = false := by simp; omega
        have s57 : decide (57 < (c : Int)) = true := by simp; omega
        clear a1 a2 hc256
        go_wp2
        go_ret
        exact ⟨ret_dec (fun h => HK.out (by have h2 := h.2.2 s[k] (List.getElem_mem hlt); rw [← HC.out] at h2; simpa using h2)), rfl⟩
      · have HK := Lib.hid (show cls c = 2 by rw [cls_two]; omega)
        have b45 : ((c : Int) != 45) = true := by simp; omega
        have b95 : ((c : Int) != 95) = true := by simp; omega
        have b46 : ((c : Int) != 46) = true := by simp; omega
        have g97 : decide (97 ≤ (c : Int)) = true := by simp; omega
        have g65 : decide (65 ≤ (c : Int)) = true := by simp; omega
        have l122 : decide ((c : Int) ≤ 122) = true := by simp; omega
        have l90 : decide ((c : Int) ≤ 90) = false := by simp; omega
        have s48 : decide ((c : Int) < 48) = false := by simp; omega
        have s57 : decide (57 < (c : Int)) = true := by simp; omega
        clear a1 a2 hc256
        go_wp2
        go_round
        case rel => exact ⟨k + 1, by omega, by go_num, all_snoc (List.getElem?_eq_getElem hlt) HN.out (by rw [← HC.out]; exact HK.out)⟩
        case measure => simp [intOf]; omega
      · have HK := Lib.hid (show ¬ cls c = 2 by rw [cls_two]; omega)
        have b45 : ((c : Int) != 45) = true := by simp; omega
        have b95 : ((c : Int) != 95) = true := by simp; omega
        have b46 : ((c : Int) != 46) = true := by simp; omega
        have g97 : decide (97 ≤ (c : Int)) = true := by simp; omega
        have g65 : decide (65 ≤ (c : Int)) = true := by simp; omega
        have l122 : decide ((c : Int) ≤ 122) = false := by simp; omega
        have l90 : decide ((c : Int) ≤ 90) = false := by simp; omega
        have s48 : decide ((c : Int) < 48) = false := by simp; omega
        have s57 : decide (57 < (c : Int)) = true := by simp; omega
        clear a1 a2 hc256
        go_wp2
        go_ret
        exact ⟨ret_dec (fun h => HK.out (by have h2 := h.2.2 s[k] (List.getElem_mem hlt); rw [← HC.out] at h2; simpa using h2)), rfl⟩
    · have HA := Lib.hid (all_of_take (by omega) HN.out)
      by_cases h0 : s = []
      · subst h0
        go_wp2
        go_ret
        exact ⟨ret_dec fun h => h.1 rfl, rfl⟩
      · have hne : s.isEmpty = false := by simpa using h0
        have H0 := Lib.hid h0
        clear h0
        by_cases h1 : s.length ≤ 60
        · have e60 : decide ((s.length : Int) ≤ 60) = true := by simp; omega
          go_wp2
          go_ret
          exact ⟨ret_dec_t ⟨H0.out, h1, fun b hb => by rw [HA.out b hb]; simp⟩, rfl⟩
        · have e60 : decide ((s.length : Int) ≤ 60) = false := by simp; omega
          go_wp2
          go_ret
          exact ⟨ret_dec fun h => h1 h.2.1, rfl⟩
end Go.Proofs.YtpmbfcogkoiogaaDoor
