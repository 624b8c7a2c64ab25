/- CompressWords: Is and Read of any words, and Write of any code, are the reference's. -/
import Derived.Test.YtmiblmmjgoeahaaWriteRef
import Derived.Test.YtmiblmmjgoeahaaLawLet
namespace Go.Proofs.Ytmiblmmjgoeahaa
open Go.RowKit
theorem join_as (w : World) (v : Value) (l : List (List UInt8)) (F : List UInt8) (h : Strs w v l) (hF : l.flatten = F) (hs : F.length ≤ 140737488355328) (hN : l.length ≤ 140737488355328) :
    Calls Try.prog 39 #[v, .string ⟨#[]⟩] w fun e w' => e = .returned (.string ⟨F.toArray⟩) ∧ Below w.heap.size w w' := by
  subst hF
  exact join_any w v l h hs hN
/-- a small code -/
def smallS (labels : List (List UInt8)) (nums : List Int) : Prop := labels.length ≤ 100 ∧ labels.flatten.length ≤ 3000 ∧ nums.length ≤ 600
instance (labels : List (List UInt8)) (nums : List Int) : Decidable (smallS labels nums) := by unfold smallS; infer_instance
theorem small_any (w : World) (lv nv : Value) (labels : List (List UInt8)) (nums : List Int) (hl : Strs w lv labels) (hn : Ints w nv nums) (hF : labels.flatten.length ≤ 1048576) (hL : labels.length ≤ 1048576) :
    Calls Try.prog 40 #[.agg #[lv, nv]] w fun e w' => e = .returned (.bool (decide (smallS labels nums))) ∧ Below w.heap.size w w' := by
  have hl0 := hl
  have hn0 := hn
  obtain ⟨A1, q1, rfl, hc1, hm1, hx1⟩ := hl.open_
  obtain ⟨A3, q3, rfl, hc3, hm3, hx3⟩ := hn.open_
  unfold maxLen at hm1 hm3
  clear hx1 hx3 hl hn
  obtain ⟨F, hFF⟩ : ∃ F, labels.flatten = F := ⟨_, rfl⟩
  have HF := Lib.hid hFF
  rw [hFF] at hF
  have HS : Hid (smallS labels nums ↔ labels.length ≤ 100 ∧ F.length ≤ 3000 ∧ nums.length ≤ 600) := Lib.hid (by rw [← hFF]; exact Iff.rfl)
  clear hFF
  by_cases h1 : labels.length ≤ 100
  · have e1 : decide ((labels.length : Int) ≤ 100) = true := by simp; omega
    have hr0 := Row.new w 37 #[.slice A1 labels.length q1, .slice A3 nums.length q3]
    by_cases h2 : F.length ≤ 3000
    · have e2 : decide ((F.length : Int) ≤ 3000) = true := by simp; omega
      go_enter Try.func40, Try.ntmps40
      go_wp2_with (go_at_call 39; refine (join_as _ _ labels F (hl0.alloc _) HF.out (by omega) (by omega)).mono ?_; rintro e w1 ⟨rfl, hb1⟩; have y1 := (hr0.below hb1 hr0.lt).cell (i := 1) (v := .slice A3 nums.length q3) rfl)
      go_ret
      exact ⟨ret_bool (decide_eq_decide.2 (by rw [HS.out]; omega)), then_ (new_ (Below.refl _ _) _) hb1⟩
    · have e2 : decide ((F.length : Int) ≤ 3000) = false := by simp; omega
      go_enter Try.func40, Try.ntmps40
      go_wp2_with (go_at_call 39; refine (join_as _ _ labels F (hl0.alloc _) HF.out (by omega) (by omega)).mono ?_; rintro e w1 ⟨rfl, hb1⟩)
      go_ret
      exact ⟨ret_dec (fun h => h2 (HS.out.1 h).2.1), then_ (new_ (Below.refl _ _) _) hb1⟩
  · have e1 : decide ((labels.length : Int) ≤ 100) = false := by simp; omega
    go_enter Try.func40, Try.ntmps40
    go_wp2
    go_ret
    exact ⟨ret_dec (fun h => h1 h.1), new_ (Below.refl _ _) _⟩
theorem code_same (w : World) (a1 b1 a2 b2 : Value) (labels : List (List UInt8)) (nums : List Int) (h1 : Strs w a1 labels) (h2 : Ints w b1 nums) (h3 : Strs w a2 labels) (h4 : Ints w b2 nums) :
    Calls Try.prog 47 #[.agg #[a1, b1], .agg #[a2, b2]] w fun e w' => e = .returned (.bool true) ∧ Below w.heap.size w w' := by
  have hr1 := (Row.new w 44 #[a1, b1]).alloc (.cells #[a2, b2] 44)
  have hr2 := Row.new' (w.alloc (.cells #[a1, b1] 44)) 44 #[a2, b2] (g := w.heap.size + 1) (by simp)
  go_enter Try.func47, Try.ntmps47
  go_wp2_with (first | (go_at_call 36; refine (equal_str_same _ _ _ labels ((h1.alloc _).alloc _) ((h3.alloc _).alloc _)).mono ?_; rintro e w1 ⟨rfl, hb1⟩; have y1 := (hr1.below hb1 hr1.lt).cell (i := 1) (v := b1) rfl; have y2 := (hr2.below hb1 hr2.lt).cell (i := 1) (v := b2) rfl; have HB1 := Lib.hid hb1) | (go_at_call 22; refine (equal_int_same (((h2.alloc _).alloc _).below HB1.out) (((h4.alloc _).alloc _).below HB1.out)).mono ?_; rintro e w2 ⟨rfl, hb2⟩))
  go_ret
  exact ⟨rfl, then_ (then_ (new_ (new_ (Below.refl _ _) _) _) HB1.out) hb2⟩
/-- a box with two values, made by a call that began in w -/
structure Box2 (w W : World) (g : Nat) (t : TypeId) (a b : Value) : Prop where
  row : Row W g t #[a, b]
  below : Below w.heap.size w W
theorem Box2.next {w W W' : World} {g : Nat} {t : TypeId} {a b : Value} (h : Box2 w W g t a b) (hb : Below W.heap.size W W') : Box2 w W' g t a b := ⟨h.row.below hb h.row.lt, then_ h.below hb⟩
theorem Box2.cells {w W : World} {g : Nat} {t : TypeId} {a b : Value} (h : Box2 w W g t a b) : W.cell? ⟨g, 0, none⟩ = some a ∧ W.cell? ⟨g, 1, none⟩ = some b ∧ g < W.heap.size := ⟨h.row.cell rfl, h.row.cell rfl, h.row.lt⟩
theorem Box2.more {w W : World} {g : Nat} {t : TypeId} {a b : Value} (h : Box2 w W g t a b) (o : Obj) : Box2 w (W.alloc o) g t a b := ⟨h.row.alloc o, new_ h.below o⟩
theorem Box2.new {w W : World} (h : Below w.heap.size w W) (t : TypeId) (a b : Value) : Box2 w (W.alloc (.cells #[a, b] t)) W.heap.size t a b := ⟨Row.new _ _ _, new_ h _⟩
set_option maxRecDepth 100000 in
set_option maxHeartbeats 4000000 in
theorem law_words (w : World) (pv lv nv : Value) (p labels : List (List UInt8)) (nums : List Int) (width : Int) (hp : Strs w pv p) (hl : Strs w lv labels) (hn : Ints w nv nums)
    (hsp : ∀ s ∈ p, s.length ≤ maxLen) (hsl : ∀ s ∈ labels, s.length ≤ maxLen) (b1 : p.flatten.length ≤ 1048576) (b2 : p.length ≤ 1048576) (b3 : labels.flatten.length ≤ 1048576) (b4 : labels.length ≤ 1048576) :
    Calls Try.prog 7 #[pv, .agg #[lv, nv], .int .i64 width] w fun e w' => e = .returned (.bool true) ∧ Below w.heap.size w w' := by
  have hp0 := hp
  have hl0 := hl
  have hn0 := hn
  obtain ⟨A0, q0, rfl, hc0, hm0, hx0⟩ := hp.open_
  obtain ⟨A1, q1, rfl, hc1, hm1, hx1⟩ := hl.open_
  obtain ⟨A3, q3, rfl, hc3, hm3, hx3⟩ := hn.open_
  clear hx0 hx1 hx3 hp hl hn
  have hx0 := Box2.new (Below.refl w.heap.size w) 37 (.slice A1 labels.length q1) (.slice A3 nums.length q3)
  have HX0 := Lib.hid hx0
  obtain ⟨F, hFF⟩ : ∃ F, p.flatten = F := ⟨_, rfl⟩
  have HF := Lib.hid hFF
  have b1' : Hid (p.flatten.length ≤ 1048576) := Lib.hid b1
  have b3' : Hid (labels.flatten.length ≤ 1048576) := Lib.hid b3
  rw [hFF] at b1
  clear hFF b3
  obtain ⟨k0, k1, k2⟩ := hx0.cells
  clear hx0
  by_cases t1 : 300 < p.length
  · have e1 : decide ((300 : Int) < (p.length : Int)) = true := by simp; omega
    go_enter Try.func7, Try.ntmps7
    go_wp2_with (go_at_call 17; refine (awake08 _).mono ?_; rintro e w1 ⟨rfl, hb1⟩)
    go_ret
    exact ⟨rfl, then_ HX0.out.below hb1⟩
  · have e1 : decide ((300 : Int) < (p.length : Int)) = false := by simp; omega
    by_cases t2 : 4000 < F.length
    · have e2 : decide ((4000 : Int) < (F.length : Int)) = true := by simp; omega
      go_enter Try.func7, Try.ntmps7
      go_wp2_with (first | (go_at_call 39; refine (join_as _ _ p F (hp0.alloc _) HF.out (by omega) (by omega)).mono ?_; rintro e w1 ⟨rfl, hb1⟩) | (go_at_call 17; refine (awake08 _).mono ?_; rintro e w2 ⟨rfl, hb2⟩))
      go_ret
      exact ⟨rfl, then_ (then_ HX0.out.below hb1) hb2⟩
    · have e2 : decide ((4000 : Int) < (F.length : Int)) = false := by simp; omega
      by_cases t3 : smallS labels nums
      · have e3 : decide (smallS labels nums) = true := decide_eq_true t3
        obtain ⟨s1, s2, s3⟩ := t3
        clear t1 t2 s2
        go_enter Try.func7, Try.ntmps7
        go_wp2_with (first
          | (go_at_call 39; (refine (join_as _ _ p F (hp0.alloc _) HF.out (by omega) (by omega)).mono ?_; rintro e w1 ⟨rfl, hb1⟩; have X1 := HX0.out.next hb1; obtain ⟨j0, j1, j2⟩ := X1.cells; have HX1 := Lib.hid X1; clear X1 hb1))
          | (go_at_call 40; (refine (small_any _ _ _ labels nums (hl0.below HX1.out.below) (hn0.below HX1.out.below) b3'.out b4).mono ?_; rintro e w2 ⟨rfl, hb2⟩; have X2 := HX1.out.next hb2; have HX2 := Lib.hid X2; clear X2 hb2 j0 j1 j2))
          | (go_at_call 41; (refine (read_any _ _ p (hp0.below HX2.out.below) b1'.out b2).mono ?_; rintro e w3 ⟨u1, u2, rfl, hu1, hu2, hb3⟩; obtain ⟨ua, ca, rfl⟩ := hu1.form; obtain ⟨ub, cb, rfl⟩ := hu2.form; have X3 := HX2.out.next hb3; have Y3 := Box2.new X3.below 37 (.slice ua (readS p).1.1.length ca) (.slice ub (readS p).1.2.length cb); have HX3 := Lib.hid (X3.more (.cells #[.slice ua (readS p).1.1.length ca, .slice ub (readS p).1.2.length cb] 37)); have HY3 := Lib.hid Y3; have HU1 := Lib.hid (hu1.alloc (.cells #[.slice ua (readS p).1.1.length ca, .slice ub (readS p).1.2.length cb] 37)); have HU2 := Lib.hid (hu2.alloc (.cells #[.slice ua (readS p).1.1.length ca, .slice ub (readS p).1.2.length cb] 37)); clear X3 Y3 hb3 hu1 hu2))
          | (go_at_call 42; (refine (ref_read _ _ p (hp0.below HX3.out.below) b1'.out b2 hsp).mono ?_; rintro e w4 ⟨v1, v2, rfl, hv1, hv2, hb4⟩; obtain ⟨va, da, rfl⟩ := hv1.form; obtain ⟨vb, db, rfl⟩ := hv2.form; have X4 := (HX3.out.next hb4).more (.cells #[.slice va (readS p).1.1.length da, .slice vb (readS p).1.2.length db] 44); have HX4 := Lib.hid X4; have HY4 := Lib.hid ((HY3.out.next hb4).more (.cells #[.slice va (readS p).1.1.length da, .slice vb (readS p).1.2.length db] 44)); have HZ4 := Lib.hid (Box2.new (HX3.out.next hb4).below 44 (.slice va (readS p).1.1.length da) (.slice vb (readS p).1.2.length db)); have HU1' := Lib.hid ((HU1.out.below hb4).alloc (.cells #[.slice va (readS p).1.1.length da, .slice vb (readS p).1.2.length db] 44)); have HU2' := Lib.hid ((HU2.out.below hb4).alloc (.cells #[.slice va (readS p).1.1.length da, .slice vb (readS p).1.2.length db] 44)); have HV1 := Lib.hid (hv1.alloc (.cells #[.slice va (readS p).1.1.length da, .slice vb (readS p).1.2.length db] 44)); have HV2 := Lib.hid (hv2.alloc (.cells #[.slice va (readS p).1.1.length da, .slice vb (readS p).1.2.length db] 44)); obtain ⟨j0, j1, j2⟩ := X4.cells; clear X4 hb4 hv1 hv2))
          | (go_at_call 43; (refine (write_any _ _ _ labels nums width (hl0.below HX4.out.below) (hn0.below HX4.out.below) (by omega) (by omega)).mono ?_; rintro e w5 ⟨v5, rfl, hv5, hb5⟩; have X5 := HX4.out.next hb5; obtain ⟨i0, i1, i2⟩ := X5.cells; have HX5 := Lib.hid X5; have HB5 := Lib.hid hb5; have HV5 := Lib.hid hv5; clear X5 hb5 hv5 j0 j1 j2))
          | (go_at_call 44; (refine (ref_write _ _ _ labels nums width (hl0.below HX5.out.below) (hn0.below HX5.out.below) (by omega) (by omega) hsl).mono ?_; rintro e w6 ⟨v6, rfl, hv6, hb6⟩; have HX6 := Lib.hid (HX5.out.next hb6); have HB6 := Lib.hid hb6; have HV6 := Lib.hid hv6; have Y6 := (HY4.out.next HB5.out).next hb6; have Z6 := (HZ4.out.next HB5.out).next hb6; obtain ⟨m0, m1, m2⟩ := Y6.cells; obtain ⟨n0, n1, n2⟩ := Z6.cells; clear Y6 Z6 hb6 hv6 i0 i1 i2))
          | (go_at_call 45; (refine (is_any _ _ p (hp0.below HX6.out.below)).mono ?_; rintro e w7 ⟨rfl, rfl⟩))
          | (go_at_call 46; (refine (ref_is _ _ p (hp0.below HX6.out.below)).mono ?_; rintro e w7 ⟨rfl, rfl⟩))
          | (go_at_call 47; (refine (code_same _ _ _ _ _ _ _ ((HU1'.out.below HB5.out).below HB6.out) ((HU2'.out.below HB5.out).below HB6.out) ((HV1.out.below HB5.out).below HB6.out) ((HV2.out.below HB5.out).below HB6.out)).mono ?_; rintro e w8 ⟨rfl, hb8⟩))
          | (go_at_call 36; (refine (equal_str_same _ _ _ _ ((HV5.out.below HB6.out).below hb8) (HV6.out.below hb8)).mono ?_; rintro e w9 ⟨rfl, hb9⟩))
          | (go_at_call 17; (refine (awake08 _).mono ?_; rintro e w10 ⟨rfl, hb10⟩)))
        go_ret
        exact ⟨rfl, then_ (then_ (then_ HX6.out.below hb8) hb9) hb10⟩
      · have e3 : decide (smallS labels nums) = false := decide_eq_false t3
        clear t1 t2 t3
        go_enter Try.func7, Try.ntmps7
        go_wp2_with (first
          | (go_at_call 39; refine (join_as _ _ p F (hp0.alloc _) HF.out (by omega) (by omega)).mono ?_; rintro e w1 ⟨rfl, hb1⟩; have X1 := HX0.out.next hb1; obtain ⟨j0, j1, j2⟩ := X1.cells; have HX1 := Lib.hid X1; clear X1 hb1)
          | (go_at_call 40; refine (small_any _ _ _ labels nums (hl0.below HX1.out.below) (hn0.below HX1.out.below) b3'.out b4).mono ?_; rintro e w2 ⟨rfl, hb2⟩)
          | (go_at_call 17; refine (awake08 _).mono ?_; rintro e w3 ⟨rfl, hb3⟩))
        go_ret
        exact ⟨rfl, then_ (then_ HX1.out.below hb2) hb3⟩
end Go.Proofs.Ytmiblmmjgoeahaa
