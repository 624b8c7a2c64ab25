/- CompressNumbers: Numbers of the letters of some numbers are these; Read of Write is the code. -/
import Derived.Test.YtmiblmmjgoeahaaNumLaw
import Derived.Test.YtmiblmmjgoeahaaLawWords
namespace Go.Proofs.Ytmiblmmjgoeahaa
open Go.RowKit
/-- the slice value v reads as the list l of 32-bit numbers -/
def U32s (w : World) (v : Value) (l : List Int) : Prop := Rds w 1 v l.length (l.map (Value.int .u32))
theorem U32s.open_ {w : World} {v : Value} {l : List Int} (h : U32s w v l) : ∃ A c, v = .slice A l.length c ∧ l.length ≤ c ∧ l.length ≤ maxLen ∧
    (∀ (k : Nat) (n : Int), l[k]? = some n → ∃ b o, A = some ⟨b, o, none⟩ ∧ w.cell? ⟨b, o + k, none⟩ = some (.int .u32 n)) := by
  obtain ⟨A, c, hv, hc, hm, hl, hr⟩ := h
  refine ⟨A, c, hv, hc, hm, fun k n hk => ?_⟩
  have hk0 : k < l.length := (List.getElem?_eq_some_iff.1 hk).1
  obtain ⟨b, o, ha, hx⟩ := hr (by omega)
  exact ⟨b, o, ha, hx k _ (by rw [List.getElem?_map, hk]; rfl)⟩
theorem U32s.below {w w' : World} {v : Value} {l : List Int} (h : U32s w v l) (hb : Below w.heap.size w w') : U32s w' v l := Rds.below h hb
theorem numsOf_at {l : List Int} {k : Nat} {n : Int} (h : l[k]? = some n) : (numsOf l)[k]? = some (1 + n % 1000000) := by unfold numsOf; rw [List.getElem?_map, h]; rfl
set_option maxRecDepth 100000 in
set_option maxHeartbeats 4000000 in
theorem law_nums (w : World) (pv lv nv : Value) (l : List Int) (labels : List (List UInt8)) (nums : List Int) (width : Int) (hp : U32s w pv l) (hl : Strs w lv labels) (hn : Ints w nv nums)
    (hwf : ∀ x ∈ l, 0 ≤ x ∧ x ≤ 4294967295) (b3 : labels.flatten.length ≤ 1048576) (b4 : labels.length ≤ 1048576) :
    Calls Try.prog 8 #[pv, .agg #[lv, nv], .int .i64 width] w fun e w' => e = .returned (.bool true) ∧ Below w.heap.size w w' := by
  have hp0 := hp
  have hl0 := hl
  have hn0 := hn
  obtain ⟨A0, q0, rfl, hc0, hm0, hx0⟩ := hp.open_
  obtain ⟨A1, q1, rfl, hc1, hm1, hx1⟩ := hl.open_
  obtain ⟨A3, q3, rfl, hc3, hm3, hx3⟩ := hn.open_
  clear hx0 hx1 hx3 hp hl hn
  have hx0 := Box2.new (Below.refl w.heap.size w) 37 (.slice A1 labels.length q1) (.slice A3 nums.length q3)
  have HX0 := Lib.hid hx0
  have b3' : Hid (labels.flatten.length ≤ 1048576) := Lib.hid b3
  have HWF := Lib.hid hwf
  obtain ⟨k0, k1, k2⟩ := hx0.cells
  clear hx0 b3 hwf
  by_cases t1 : 300 < l.length
  · have e1 : decide ((300 : Int) < (l.length : Int)) = true := decide_eq_true (by omega)
    go_enter Try.func8, Try.ntmps8
    go_wp2_with (go_at_call 17; refine (awake08 _).mono ?_; rintro e w1 ⟨rfl, hb1⟩)
    go_ret
    exact ⟨rfl, then_ HX0.out.below hb1⟩
  · have e1 : decide ((300 : Int) < (l.length : Int)) = false := decide_eq_false (by omega)
    by_cases t3 : smallS labels nums
    · have e3 : decide (smallS labels nums) = true := decide_eq_true t3
      obtain ⟨s1, s2, s3⟩ := t3
      have hwb := writeS_bounds (nums := nums) (width := width) s1 s2
      have HWB1 := Lib.hid hwb.1
      have HWB2 := Lib.hid hwb.2
      have hl3 : l.length ≤ 300 := by omega
      clear t1 s2 hwb
      go_enter Try.func8, Try.ntmps8
      go_wp2_with (go_at_call 40; refine (small_any _ _ _ labels nums (hl0.below HX0.out.below) (hn0.below HX0.out.below) b3'.out b4).mono ?_; rintro e w2 ⟨rfl, hb2⟩; have X2 := HX0.out.next hb2; have HX2 := Lib.hid X2; clear X2 hb2)
      obtain ⟨i0, hi, hj0, hj1, hj2⟩ := info_parts infoInt
      go_loopw [7, 8, 31] (fun sv ov iv wx => ∃ (k : Nat) (s : List UInt8), k ≤ l.length ∧ iv = .int .i64 k ∧ sv = .string ⟨s.toArray⟩ ∧ s = letNs ((numsOf l).take k) ∧ s.length ≤ 8 * k ∧ wx.ownsRow w2.heap.size 3 1 ov k (((numsOf l).take k).map (Value.int .i64)) ∧ Below w2.heap.size w2 wx) (fun _ _ iv _ => l.length - (intOf iv).toNat)
      case atStart => exact ⟨0, [], Nat.zero_le _, rfl, rfl, by simp [letNs], by simp, World.ownsRow_nil _ _ _ _, Below.refl _ _⟩
      case round =>
        obtain ⟨k, s, hk, rfl, rfl, hs, hsl, hown, hbx⟩ := hrel
        have hwx := hbx.size
        have HS := Lib.hid hs
        clear hs
        by_cases hlt : k < l.length
        · obtain ⟨n, hy⟩ : ∃ y, l[k]? = some y := ⟨_, List.getElem?_eq_getElem hlt⟩
          have hnb := HWF.out n (List.mem_of_getElem? hy)
          have hn1 := hnb.1
          have hn2 := hnb.2
          obtain ⟨A0', q0', hvv, _, _, hx0⟩ := (U32s.below hp0 (then_ HX2.out.below hbx)).open_
          obtain ⟨rfl, _, rfl⟩ := (by simpa using hvv : A0 = A0' ∧ True ∧ q0 = q0')
          obtain ⟨b0, o0, rfl, g0⟩ := hx0 k n hy
          obtain ⟨m, hm⟩ : ∃ m : Nat, 1 + n % 1000000 = (m : Int) := ⟨(1 + n % 1000000).toNat, by omega⟩
          have h1m : 1 ≤ m := by omega
          have h2m : m ≤ 1000000 := by omega
          have hyk := numsOf_at hy
          rw [hm] at hyk
          have hsm := letters_short h2m
          have HY : Hid (s ++ lettersS m = letNs ((numsOf l).take (k + 1))) := Lib.hid (by rw [letNs_snoc hyk, HS.out]; unfold letN; rw [if_neg (by omega), if_neg (by omega)]; simp)
          have HT : Hid ((numsOf l).take (k + 1) = (numsOf l).take k ++ [(m : Int)]) := Lib.hid (take_snoc hyk)
          have HM := Lib.hid hm
          obtain ⟨X, hX⟩ : ∃ X, X = ((numsOf l).take k).map (Value.int .i64) := ⟨_, rfl⟩
          rw [← hX] at hown
          have HXX := Lib.hid hX
          clear hx0 hy hvv hyk hX hnb
          go_wp2_with (first
            | (go_at_call 18; (refine (letters_any m h1m h2m _).mono ?_; rintro e wL ⟨rfl, hbL⟩; have hwL := hbL.size; have hownL := own_below hown hbL))
            | (at_builtin; (refine wpList_append_own _ rfl (.tmp 49) (.tmp 51) 26 rfl w2.heap.size 3 i0 (.int .i64 0) 1 8 Try.underlying26 hi hj0 hj1 hj2 rfl (by decide) _ k X rfl (hownL.alloc _) ⟨wL.heap.size, 0, none⟩ 1 1 [.int .i64 (m : Int)] rfl rfl (cell_one_new _ _ _) (by simp [Value.oneCell']) (by unfold maxLen; omega) (by omega) (by simp; omega) ?_; intro v' wz hown' hgrow _)))
          refine ⟨⟨k + 1, s ++ lettersS m, by omega, by go_num, by rw [bytes_append], HY.out, by simp; omega, ?_, ((hbx.trans (hbL.mono hwx)).alloc (by omega) _).grown hgrow (by simp; omega) (own_block hownL)⟩, by simp [intOf]; omega⟩
          rw [HT.out, List.map_append, ← HXX.out]
          exact hown'
        · obtain rfl : k = l.length := by omega
          have hnl : (numsOf l).length = l.length := by simp [numsOf]
          have hIw : Ints wr u8 (numsOf l) := by
            rw [List.take_of_length_le (by omega)] at hown
            unfold Ints
            rw [hnl]
            exact Rds.of_own hown
          have hsn : s = letNs (numsOf l) := by rw [HS.out, List.take_of_length_le (by omega)]
          have HN : Hid (numbersS s = (numsOf l, 0, 0)) := Lib.hid (by rw [hsn]; exact numbers_back (right_pos _ _ numsOf_in) (by rw [← hsn]; omega))
          have HI := Lib.hid hIw
          have X3 := HX2.out.next hbx
          have HX3 := Lib.hid X3
          obtain ⟨p, z, hpz⟩ : ∃ p z, writeS labels nums width = (p, z) := ⟨_, _, rfl⟩
          have HPZ := Lib.hid hpz
          have hp1 : p.flatten.length ≤ 1048576 := by have := HWB1.out; rw [hpz] at this; exact this
          have hp2 : p.length ≤ 1048576 := by have := HWB2.out; rw [hpz] at this; exact this
          have HP1 := Lib.hid hp1
          clear hsn hnl hIw hown hbx X3 hp1
          by_cases hz : z = 0
          · subst hz
            have HR : Hid (readS p = ((labels, nums), 0)) := Lib.hid (by have := read_back (labels := labels) (nums := nums) (width := width) (by rw [hpz]); rwa [hpz] at this)
            clear hpz
            go_wp2_with (first
              | (go_at_call 20; (refine (numbers_any s _).mono ?_; simp only [HN.out]; rintro e w4 ⟨v4, rfl, hv4, hb4⟩; have HV4 := Lib.hid hv4; have HX4 := Lib.hid (HX3.out.next hb4); have HI4 := Lib.hid (HI.out.below hb4); clear hv4 hb4))
              | (go_at_call 22; (refine (equal_int_same HV4.out HI4.out).mono ?_; rintro e w5 ⟨rfl, hb5⟩; have X5 := HX4.out.next hb5; obtain ⟨j0, j1, j2⟩ := X5.cells; have HX5 := Lib.hid X5; clear X5 hb5))
              | (go_at_call 43; (refine (write_any _ _ _ labels nums width (hl0.below HX5.out.below) (hn0.below HX5.out.below) (by omega) (by omega)).mono ?_; simp only [HPZ.out]; rintro e w6 ⟨v6, rfl, hv6, hb6⟩; have HX6 := Lib.hid (HX5.out.next hb6); have HV6 := Lib.hid hv6; clear hb6 hv6 j0 j1 j2))
              | (go_at_call 41; (refine (read_any _ _ p HV6.out HP1.out hp2).mono ?_; simp only [HR.out]; rintro e w7 ⟨u1, u2, rfl, hu1, hu2, hb7⟩; obtain ⟨ua, ca, rfl⟩ := hu1.form; obtain ⟨ub, cb, rfl⟩ := hu2.form; have X7 := HX6.out.next hb7; have Y7 := Box2.new X7.below 37 (.slice ua labels.length ca) (.slice ub nums.length cb); have Z7 := X7.more (.cells #[.slice ua labels.length ca, .slice ub nums.length cb] 37); obtain ⟨i0', i1, i2⟩ := Y7.cells; obtain ⟨m0, m1, m2⟩ := Z7.cells; have HZ7 := Lib.hid Z7; have HU1 := Lib.hid (hu1.alloc (.cells #[.slice ua labels.length ca, .slice ub nums.length cb] 37)); have HU2 := Lib.hid (hu2.alloc (.cells #[.slice ua labels.length ca, .slice ub nums.length cb] 37)); clear X7 Y7 Z7 hb7 hu1 hu2))
              | (go_at_call 47; (refine (code_same _ _ _ _ _ _ _ HU1.out HU2.out (hl0.below HZ7.out.below) (hn0.below HZ7.out.below)).mono ?_; rintro e w8 ⟨rfl, hb8⟩))
              | (go_at_call 17; (refine (awake08 _).mono ?_; rintro e w9 ⟨rfl, hb9⟩)))
            go_ret
            exact ⟨rfl, then_ (then_ HZ7.out.below hb8) hb9⟩
          · have ez : (z != 0) = true := by simpa using hz
            clear hpz hz
            go_wp2_with (first
              | (go_at_call 20; (refine (numbers_any s _).mono ?_; simp only [HN.out]; rintro e w4 ⟨v4, rfl, hv4, hb4⟩; have HV4 := Lib.hid hv4; have HX4 := Lib.hid (HX3.out.next hb4); have HI4 := Lib.hid (HI.out.below hb4); clear hv4 hb4))
              | (go_at_call 22; (refine (equal_int_same HV4.out HI4.out).mono ?_; rintro e w5 ⟨rfl, hb5⟩; have X5 := HX4.out.next hb5; obtain ⟨j0, j1, j2⟩ := X5.cells; have HX5 := Lib.hid X5; clear X5 hb5))
              | (go_at_call 43; (refine (write_any _ _ _ labels nums width (hl0.below HX5.out.below) (hn0.below HX5.out.below) (by omega) (by omega)).mono ?_; simp only [HPZ.out]; rintro e w6 ⟨v6, rfl, hv6, hb6⟩; have HX6 := Lib.hid (HX5.out.next hb6); clear hb6 hv6 j0 j1 j2))
              | (go_at_call 17; (refine (awake08 _).mono ?_; rintro e w9 ⟨rfl, hb9⟩)))
            go_ret
            exact ⟨rfl, then_ HX6.out.below hb9⟩
    · have e3 : decide (smallS labels nums) = false := decide_eq_false t3
      clear t1 t3
      go_enter Try.func8, Try.ntmps8
      go_wp2_with (first
        | (go_at_call 40; refine (small_any _ _ _ labels nums (hl0.below HX0.out.below) (hn0.below HX0.out.below) b3'.out b4).mono ?_; rintro e w2 ⟨rfl, hb2⟩)
        | (go_at_call 17; refine (awake08 _).mono ?_; rintro e w3 ⟨rfl, hb3⟩))
      go_ret
      exact ⟨rfl, then_ (then_ HX0.out.below hb2) hb3⟩
end Go.Proofs.Ytmiblmmjgoeahaa
