/- Write of the reference. -/
import Derived.Test.YtmiblmmjgoeahaaWriteWalk
namespace Go.Proofs.Ytmiblmmjgoeahaa
open Go.RowKit
theorem bytes_one (l : List UInt8) (c : UInt8) : (ByteArray.mk l.toArray ++ ByteArray.mk #[c]) = ByteArray.mk (l ++ [c]).toArray := bytes_append l [c]
set_option maxRecDepth 100000 in
set_option maxHeartbeats 4000000 in
theorem ref_write (w : World) (lv nv : Value) (labels : List (List UInt8)) (nums : List Int) (width : Int) (hl : Strs w lv labels) (hn : Ints w nv nums) (hN : nums.length ≤ 1000000) (hL : labels.length ≤ 1000000) (hsz : ∀ s ∈ labels, s.length ≤ maxLen) :
    Calls Try.prog 44 #[.agg #[lv, nv], .int .i64 width] w fun e w' => ∃ v, e = .returned (.tuple #[v, .int .i64 (writeS labels nums width).2]) ∧ Strs w' v (writeS labels nums width).1 ∧ Below w.heap.size w w' := by
  have hl0 := hl
  have hn0 := hn
  obtain ⟨A1, q1, rfl, hc1, hm1, hx1⟩ := hl.open_
  obtain ⟨A3, q3, rfl, hc3, hm3, hx3⟩ := hn.open_
  clear hx1 hx3 hl hn
  by_cases hnm : namesS labels
  · have e1 : decide (namesS labels) = true := decide_eq_true hnm
    by_cases hr : rightS none nums
    · have e3 : decide (rightS none nums) = true := decide_eq_true hr
      have HNM := Lib.hid hnm
      have HR := Lib.hid hr
      clear hnm hr
      go_enter Try.func44, Try.ntmps44
      go_wp2_with (first | (go_at_call 89; refine (ref_labels _ _ labels (hl0.alloc _) hsz).mono ?_; rintro e w2 ⟨rfl, nd, hw2⟩; have hr2 : Row w2 w.heap.size 44 #[.slice A1 labels.length q1, .slice A3 nums.length q3] := (by rw [hw2]; exact (Row.new w _ _).drewN nd); have y0 := hr2.cell (i := 0) (v := .slice A1 labels.length q1) rfl; have y1 := hr2.cell (i := 1) (v := .slice A3 nums.length q3) rfl; have hb2 : Below w.heap.size w w2 := (by rw [hw2]; exact below_drewN (new_ (Below.refl _ _) _) nd); have hz2 := hr2.lt; have HW2 := Lib.hid hw2; clear hw2) | (go_at_call 91; refine (ref_right _ _ nums (hn0.below hb2)).mono ?_; rintro e w3 ⟨rfl, rfl⟩))
      go_loop [6, 7] (fun sv i => ∃ (k : Nat) (l : List UInt8), k ≤ nums.length ∧ i = .int .i64 k ∧ l = letNs (nums.take k) ∧ sv = .string ⟨l.toArray⟩ ∧ l.length ≤ k * 1000000) (fun _ i => nums.length - (intOf i).toNat)
      case atStart => exact ⟨0, [], Nat.zero_le _, rfl, by simp [letNs], rfl, by simp⟩
      case round =>
        obtain ⟨k, l, hk, rfl, hl, rfl, hll⟩ := hrel
        have HL := Lib.hid hl
        clear hl
        by_cases hlt : k < nums.length
        · obtain ⟨n, hy⟩ : ∃ y, nums[k]? = some y := ⟨_, List.getElem?_eq_getElem hlt⟩
          have hnb := (rightS_iff nums none).1 HR.out k n hy
          have hn1 := hnb.1
          have hn2 := hnb.2.1
          obtain ⟨A3', q3', hvv, _, _, hx3⟩ := (hn0.below hb2).open_
          obtain ⟨rfl, _, rfl⟩ := (by simpa using hvv : A3 = A3' ∧ True ∧ q3 = q3')
          obtain ⟨b3, o3, rfl, hz⟩ := hx3 k n hy
          have g3 := hz k n hy
          have hle := letN_len hn2
          have HS : Hid (l ++ letN n = letNs (nums.take (k + 1))) := Lib.hid (by rw [letNs_snoc hy, HL.out])
          have hll2 : l.length ≤ 1000000000000 := by omega
          have HLL : Hid (l.length ≤ k * 1000000) := Lib.hid hll
          clear hx3 hz hy hnb hvv hll
          by_cases t0 : n = 0
          · subst t0
            go_wp2
            go_round
            case rel => exact ⟨k + 1, l ++ letN 0, by omega, by go_num, HS.out, by simp [letN, bytes_one], by have := HLL.out; simp; omega⟩
            case measure => simp [intOf]; omega
          · have f0 : (n == 0) = false := by simpa using t0
            by_cases t1 : n = -1
            · subst t1
              clear f0 t0
              go_wp2
              go_round
              case rel => exact ⟨k + 1, l ++ letN (-1), by omega, by go_num, HS.out, by simp [letN, bytes_one], by have := HLL.out; simp; omega⟩
              case measure => simp [intOf]; omega
            · have f1 : (n == -1) = false := by simpa using t1
              obtain ⟨m, rfl⟩ : ∃ m : Nat, n = m := ⟨n.toNat, by omega⟩
              have h1m : 1 ≤ m := by omega
              have h2m : m ≤ 1000000 := by omega
              have hLM : letN (m : Int) = lettersS m := by unfold letN; rw [if_neg t0, if_neg t1]; simp
              have hSl : (lettersS m).length ≤ 1000000 := by rw [← hLM]; omega
              rw [hLM] at HS hle
              clear t0 t1 hLM
              go_wp2_with (go_at_call 19; (refine (ref_letters_any m h1m h2m _).mono ?_; rintro e wL ⟨rfl, rfl⟩))
              go_round
              case rel => exact ⟨k + 1, l ++ lettersS m, by omega, by go_num, HS.out, by rw [bytes_append], by have := HLL.out; simp; omega⟩
              case measure => simp [intOf]; omega
        · obtain rfl : k = nums.length := by omega
          rw [List.take_length] at HL
          have hll2 : l.length ≤ 1000000000000 := by omega
          by_cases h9 : 40000 < l.length
          · have e9 : decide ((40000 : Int) < (l.length : Int)) = true := by simp; omega
            have HE := Lib.hid (writeS_size (width := width) HNM.out HR.out (by rw [← HL.out]; exact h9))
            clear h9
            go_wp2
            go_ret2
            rw [HE.out]
            exact ⟨_, rfl, Rds.nil_, hb2⟩
          · have e9 : decide ((40000 : Int) < (l.length : Int)) = false := by simp; omega
            have hl4 : l.length ≤ 40000 := by omega
            have HE := Lib.hid (writeS_ok (width := width) HNM.out HR.out (by rw [← HL.out]; exact h9))
            have HLb := Lib.hid (hl0.below hb2)
            obtain ⟨i0, hi, hj0, hj1, hj2⟩ := info_parts infoStr
            obtain ⟨K, hK⟩ : ∃ K : Nat, max width 1 = (K : Int) := ⟨(max width 1).toNat, by omega⟩
            have hK1 : 1 ≤ K := by omega
            obtain ⟨K', hK'⟩ : ∃ K' : Nat, K' = min K 40000 := ⟨_, rfl⟩
            have hmx : min (max width 1) 40000 = (K' : Int) := by omega
            have hK2 : 1 ≤ K' := by omega
            have hK3 : K' ≤ 40000 := by omega
            have HK := Lib.hid hK
            have HK' := Lib.hid hK'
            clear h9 hK hK'
            go_wp2_with (first | (at_builtin; (refine wpList_append_rds rfl (.tmp 53) (.tmp 55) 33 rfl w2.heap.size 9 i0 (.string ⟨#[]⟩) 1 16 Try.underlying33 hi hj0 hj1 hj2 rfl (by decide) _ 1 [.string ⟨#[40]⟩] rfl (own_lit w2 9 #[.string ⟨#[40]⟩] 1 rfl (Nat.le_refl _) (by decide)) (.slice A1 labels.length q1) labels.length (labels.map fun s : List UInt8 => Value.string ⟨s.toArray⟩) rfl (HLb.out.alloc _) (by simp [Value.oneCell']) (by unfold maxLen; omega) (by omega) (by simp) ?_; intro v5 w5 hown5 hg5; have hz5 : w2.heap.size < w5.heap.size := (by have := hg5.size; simp at this; omega))) | (at_builtin; (refine wpList_append_rds rfl (.tmp 56) (.tmp 57) 33 rfl w2.heap.size 9 i0 (.string ⟨#[]⟩) 1 16 Try.underlying33 hi hj0 hj1 hj2 rfl (by decide) _ (1 + labels.length) _ rfl (hown5.alloc _) (.slice (some ⟨w5.heap.size, 0, none⟩) 1 1) 1 [.string ⟨#[41]⟩] rfl (Rds.lit w5 9 #[.string ⟨#[41]⟩] 1 rfl (by decide)) (by simp [Value.oneCell']) (by unfold maxLen; omega) (by omega) (by simp; omega) ?_; intro v6 w6 hown6 hg6; have hb6 : Below w2.heap.size w2 w6 := ((((Below.refl _ _).alloc (Nat.le_refl _) _).grown hg5 (by simp) (fun j ej => by cases ej; exact Nat.le_refl _)).alloc (by omega) _).grown hg6 (by simp; omega) (own_block hown5); have hz6 := hb6.size)))
            have hown7 : w6.ownsRow w2.heap.size 9 1 v6 ([40] :: labels ++ [[41]] ++ []).length (([40] :: labels ++ [[41]] ++ []).map fun s : List UInt8 => Value.string ⟨s.toArray⟩) := by
              simpa [Nat.add_comm, Nat.add_left_comm] using hown6
            clear hown6 hg6 hown5 hg5 y0 y1 hmx
            go_loopw [11, 12] (fun ov iv wx => ∃ i : Nat, i ≤ 80000 ∧ iv = .int .i64 i ∧ WrAt wx w2.heap.size K labels l ov (l.drop i) ∧ Below w2.heap.size w2 wx) (fun _ iv _ => l.length - (intOf iv).toNat)
            case atStart => exact ⟨0, by omega, rfl, ⟨[], hown7, by simp, by simp⟩, hb6⟩
            case round =>
              obtain ⟨i, hi8, rfl, hwa, hbx⟩ := hrel
              have hwx := hbx.size
              by_cases hlt2 : i < l.length
              · obtain ⟨j, hj⟩ : ∃ j : Nat, j = min (i + K') l.length := ⟨_, rfl⟩
                have hj1 : i ≤ j := by omega
                have hj2' : j ≤ l.length := by omega
                have hmn : min ((i : Int) + (K' : Int)) (l.length : Int) = (j : Int) := by omega
                obtain ⟨acc, hown, hch, hal⟩ := hwa
                have HC := Lib.hid hch
                have hal2 : acc.length ≤ 40000 := by omega
                obtain ⟨M, X, hM, hX, hMX, hMb⟩ : ∃ (M : Nat) (X : List Value), Hid (M = ([40] :: labels ++ [[41]] ++ acc).length) ∧ Hid (X = (([40] :: labels ++ [[41]] ++ acc).map fun s : List UInt8 => Value.string ⟨s.toArray⟩)) ∧ wr.ownsRow w2.heap.size 9 1 u11 M X ∧ M ≤ 2000000 := ⟨_, _, Lib.hid rfl, Lib.hid rfl, hown, by simp; omega⟩
                have HJ := Lib.hid hj
                clear hch hown hj
                go_wp2_with (at_builtin; (refine wpList_append_own _ rfl (.tmp 69) (.tmp 79) 33 rfl w2.heap.size 9 i0 (.string ⟨#[]⟩) 1 16 Try.underlying33 hi hj0 (by assumption) hj2 rfl (by decide) u11 M X rfl (hMX.alloc _) ⟨wr.heap.size, 0, none⟩ 1 1 [.string _] rfl rfl (cell_one_new _ _ _) (by simp [Value.oneCell']) (by unfold maxLen; omega) (by omega) (by simp; omega) ?_; intro v' wz hown' hgrow _))
                refine ⟨⟨i + K', by omega, by go_num, ?_, (hbx.alloc (by omega) _).grown hgrow (by simp; omega) (own_block hMX)⟩, by simp [intOf]; omega⟩
                have hJ := HJ.out
                have hKK := HK'.out
                have e1 : (ByteArray.mk l.toArray).extract i j = (ByteArray.mk (l.drop i).toArray).extract 0 (j - i) := by
                  rw [bytes_cut, bytes_cut, List.drop_zero, List.drop_take]
                have e2 : l.drop (i + K') = (l.drop i).drop (j - i) := by
                  rw [List.drop_drop]
                  by_cases h : i + K' ≤ l.length
                  · rw [show i + (j - i) = i + K' by omega]
                  · rw [List.drop_eq_nil_of_le (by omega), List.drop_eq_nil_of_le (by omega)]
                rw [e1] at hown'
                rw [e2]
                exact wr_snoc hown' hM.out hX.out (by simp; omega) hK1 (by simp; omega) HC.out hal
              · go_wp2
                go_ret2
                rw [HE.out]
                refine ⟨_, rfl, ?_, hb2.trans (hbx.mono (by omega))⟩
                obtain ⟨acc, hown, hch, hal⟩ := hwa
                rw [List.drop_eq_nil_of_le (by omega), chunks_nil, List.append_nil] at hch
                rw [hch, HL.out] at hown
                rw [HK.out]
                exact Rds.of_own hown
    · have e3 : decide (rightS none nums) = false := decide_eq_false hr
      have HS := Lib.hid (writeS_right (width := width) hnm hr)
      clear hnm hr
      go_enter Try.func44, Try.ntmps44
      go_wp2_with (first | (go_at_call 89; refine (ref_labels _ _ labels (hl0.alloc _) hsz).mono ?_; rintro e w2 ⟨rfl, nd, hw2⟩; have hr2 : Row w2 w.heap.size 44 #[.slice A1 labels.length q1, .slice A3 nums.length q3] := (by rw [hw2]; exact (Row.new w _ _).drewN nd); have y0 := hr2.cell (i := 0) (v := .slice A1 labels.length q1) rfl; have y1 := hr2.cell (i := 1) (v := .slice A3 nums.length q3) rfl; have hb2 : Below w.heap.size w w2 := (by rw [hw2]; exact below_drewN (new_ (Below.refl _ _) _) nd); clear hw2) | (go_at_call 91; refine (ref_right _ _ nums (hn0.below hb2)).mono ?_; rintro e w3 ⟨rfl, rfl⟩))
      go_ret2
      rw [HS.out]
      exact ⟨_, rfl, Rds.nil_, hb2⟩
  · have e1 : decide (namesS labels) = false := decide_eq_false hnm
    have HS := Lib.hid (writeS_names (nums := nums) (width := width) hnm)
    clear hnm
    go_enter Try.func44, Try.ntmps44
    go_wp2_with (go_at_call 89; refine (ref_labels _ _ labels (hl0.alloc _) hsz).mono ?_; rintro e w2 ⟨rfl, nd, rfl⟩)
    go_ret2
    rw [HS.out]
    exact ⟨_, rfl, Rds.nil_, below_drewN (new_ (Below.refl _ _) _) nd⟩
end Go.Proofs.Ytmiblmmjgoeahaa
