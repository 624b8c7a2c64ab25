/- CompressItems: the items of any frame and code are the reference's. -/
import Derived.Test.YtmiblmmjgoeahaaItemEq
import Derived.Test.YtmiblmmjgoeahaaLawLet
namespace Go.Proofs.Ytmiblmmjgoeahaa
open Go.ChangeShapes Go.WideShapes Go.ChangeAt Go.RowKit
set_option maxRecDepth 100000 in
set_option maxHeartbeats 4000000 in
theorem law_items (w : World) (c0 c1 hv c3 c4 c5 c6 c7 lv nv : Value) (hyps labels : List (List UInt8)) (nums : List Int) (hl : Strs w lv labels) (hh : HypL w hv hyps) (hn : Ints w nv nums) (hsz : ∀ s ∈ labels, s.length ≤ maxLen) :
    Calls Try.prog 4 #[.agg #[c0, c1, hv, c3, c4, c5, c6, c7], .agg #[lv, nv]] w fun e w' => e = .returned (.bool true) ∧ Below w.heap.size w w' := by
  have hl0 := hl
  have hh0 := hh
  have hn0 := hn
  obtain ⟨A1, q1, rfl, hc1, hm1, hx1⟩ := hl.open_
  obtain ⟨A2, q2, rfl, hc2, hm2, hx2⟩ := hh
  obtain ⟨A3, q3, rfl, hc3, hm3, hx3⟩ := hn.open_
  clear hx1 hx2 hx3 hl hn
  have hb0 := ItBox.new w 37 c0 c1 (.slice A2 hyps.length q2) c3 c4 c5 c6 c7 (.slice A1 labels.length q1) (.slice A3 nums.length q3)
  by_cases t1 : 60 < hyps.length
  · have e1 : decide ((60 : Int) < (hyps.length : Int)) = true := by simp; omega
    go_enter Try.func4, Try.ntmps4
    go_wp2_with (go_at_call 17; refine (awake08 _).mono ?_; rintro e w1 ⟨rfl, hb1⟩)
    go_ret
    exact ⟨rfl, then_ hb0.below hb1⟩
  · have e1 : decide ((60 : Int) < (hyps.length : Int)) = false := by simp; omega
    by_cases t2 : 100 < labels.length
    · have e2 : decide ((100 : Int) < (labels.length : Int)) = true := by simp; omega
      go_enter Try.func4, Try.ntmps4
      go_wp2_with (go_at_call 17; refine (awake08 _).mono ?_; rintro e w1 ⟨rfl, hb1⟩)
      go_ret
      exact ⟨rfl, then_ hb0.below hb1⟩
    · have e2 : decide ((100 : Int) < (labels.length : Int)) = false := by simp; omega
      have hH : hyps.length ≤ 1000000 := by omega
      have hL : labels.length ≤ 1000000 := by omega
      clear t1 t2
      by_cases t3 : 600 < nums.length
      · have e3 : decide ((600 : Int) < (nums.length : Int)) = true := by simp; omega
        by_cases t4 : nums.length ≤ 2000
        · have e4 : decide ((nums.length : Int) ≤ 2000) = true := by simp; omega
          go_enter Try.func4, Try.ntmps4
          go_wp2_with (go_at_call 17; refine (awake08 _).mono ?_; rintro e w1 ⟨rfl, hb1⟩)
          go_ret
          exact ⟨rfl, then_ hb0.below hb1⟩
        · have e4 : decide ((nums.length : Int) ≤ 2000) = false := by simp; omega
          by_cases t5 : 5000 < nums.length
          · have e5 : decide ((5000 : Int) < (nums.length : Int)) = true := by simp; omega
            go_enter Try.func4, Try.ntmps4
            go_wp2_with (go_at_call 17; refine (awake08 _).mono ?_; rintro e w1 ⟨rfl, hb1⟩)
            go_ret
            exact ⟨rfl, then_ hb0.below hb1⟩
          · have e5 : decide ((5000 : Int) < (nums.length : Int)) = false := by simp; omega
            have hN : nums.length ≤ 1000000 := by omega
            clear t3 t4 t5
            obtain ⟨k0, k1, k2, k3, k4, k5, k6, k7, d0, d1⟩ := hb0.cells
            go_enter Try.func4, Try.ntmps4
            go_wp2_with (first | (go_at_call 23; refine (items_any _ c0 c1 _ c3 c4 c5 c6 c7 _ _ hyps labels nums (hl0.below hb0.below) (hh0.below hb0.below) (hn0.below hb0.below) hN hH hL).mono ?_; rintro e w1 ⟨v1, rfl, hi1, hb1⟩; have hB1 := hb0.next hb1; obtain ⟨k0, k1, k2, k3, k4, k5, k6, k7, d0, d1⟩ := hB1.cells) | (go_at_call 24; refine (ref_items _ c0 c1 _ c3 c4 c5 c6 c7 _ _ hyps labels nums (hl0.below hB1.below) (hh0.below hB1.below) (hn0.below hB1.below) hN hH hL hsz).mono ?_; rintro e w2 ⟨v2, rfl, hi2, hb2⟩) | (go_at_call 25; refine (equalFunc_items _ _ _ _ (hi1.below hb2) hi2).mono ?_; rintro e w3 ⟨rfl, hb3⟩) | (go_at_call 17; refine (awake08 _).mono ?_; rintro e w4 ⟨rfl, hb4⟩))
            go_ret
            exact ⟨rfl, then_ (then_ (then_ hB1.below hb2) hb3) hb4⟩
      · have e3 : decide ((600 : Int) < (nums.length : Int)) = false := by simp; omega
        have e5 : decide ((5000 : Int) < (nums.length : Int)) = false := by simp; omega
        have hN : nums.length ≤ 1000000 := by omega
        clear t3
        obtain ⟨k0, k1, k2, k3, k4, k5, k6, k7, d0, d1⟩ := hb0.cells
        go_enter Try.func4, Try.ntmps4
        go_wp2_with (first | (go_at_call 23; refine (items_any _ c0 c1 _ c3 c4 c5 c6 c7 _ _ hyps labels nums (hl0.below hb0.below) (hh0.below hb0.below) (hn0.below hb0.below) hN hH hL).mono ?_; rintro e w1 ⟨v1, rfl, hi1, hb1⟩; have hB1 := hb0.next hb1; obtain ⟨k0, k1, k2, k3, k4, k5, k6, k7, d0, d1⟩ := hB1.cells) | (go_at_call 24; refine (ref_items _ c0 c1 _ c3 c4 c5 c6 c7 _ _ hyps labels nums (hl0.below hB1.below) (hh0.below hB1.below) (hn0.below hB1.below) hN hH hL hsz).mono ?_; rintro e w2 ⟨v2, rfl, hi2, hb2⟩) | (go_at_call 25; refine (equalFunc_items _ _ _ _ (hi1.below hb2) hi2).mono ?_; rintro e w3 ⟨rfl, hb3⟩) | (go_at_call 17; refine (awake08 _).mono ?_; rintro e w4 ⟨rfl, hb4⟩))
        go_ret
        exact ⟨rfl, then_ (then_ (then_ hB1.below hb2) hb3) hb4⟩
end Go.Proofs.Ytmiblmmjgoeahaa
