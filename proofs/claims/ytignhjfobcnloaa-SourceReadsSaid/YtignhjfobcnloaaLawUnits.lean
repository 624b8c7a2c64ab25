/- SourceUnits: Texts and Locate of any unit. -/
import Derived.Test.YtignhjfobcnloaaUnitA
import Derived.Test.YtignhjfobcnloaaLawStrip
namespace Go.Proofs.Ytignhjfobcnloaa
open Go.RowKit
attribute [local go_sem ↓] Go.wp_at_zero Go.wp_at_succ
theorem heldFault : Try.prog.stoodInHeld 59 = false := by kernel_rfl
set_option maxRecDepth 100000 in
set_option maxHeartbeats 4000000 in
theorem law_units (w : World) (fv wv : Value) (fs : List (List UInt8)) (ws : List WordD) (k : Int) (hf : Strs w fv fs) (hw : WordsAt w wv ws) (hM : MaxAt w) :
    Calls Try.prog 5 #[fv, wv, .int .i64 k] w fun e w' => e = .returned (.bool true) ∧ Below w.heap.size w w' := by
  obtain ⟨fA, fc, rfl, -, hfm, -⟩ := hf.open_
  obtain ⟨wA, wc, rfl, -, hwm, -⟩ := hw.open_
  unfold maxLen at hfm hwm
  have HF := Lib.hid hf
  have HW := Lib.hid hw
  have HM := Lib.hid hM
  clear hf hw hM
  by_cases h1 : fs.length ≤ 100
  · have e1 : decide ((100 : Int) < (fs.length : Int)) = false := decide_eq_false (by omega)
    by_cases h2 : ws.length ≤ 100
    · have e2 : decide ((100 : Int) < (ws.length : Int)) = false := decide_eq_false (by omega)
      obtain ⟨⟨⟨f, p⟩, z⟩, hr⟩ : ∃ r, locS fs ws k = r := ⟨_, rfl⟩
      have HR := Lib.hid hr
      clear hr
      have s1 : (f == f) = true := by simp
      have s2 : (p == p) = true := by simp
      have s3 : (z == z) = true := by simp
      have HB := Lib.hid (new_ (Below.refl w.heap.size w) (.cells #[.slice fA fs.length fc, .slice wA ws.length wc, .slice none 0 0] 54))
      have HU := Lib.hid (Row.new w 54 #[.slice fA fs.length fc, .slice wA ws.length wc, .slice none 0 0])
      go_enter Try.func5, Try.ntmps5
      go_wp2_with (first
        | (go_at_call 26; (refine (locate_any _ _ _ _ fs ws k (HF.out.below HB.out) (HW.out.below HB.out) _ HR.out).mono ?_; rintro e w2 ⟨rfl, hb2⟩; unfold locV; have HB2 := Lib.hid (then_ HB.out hb2); have HU2 := Lib.hid (HU.out.below hb2 HU.out.lt); have u0 := HU2.out.cell (i := 0) (v := .slice fA fs.length fc) rfl; have u1 := HU2.out.cell (i := 1) (v := .slice wA ws.length wc) rfl; have u2 := HU2.out.cell (i := 2) (v := .slice none 0 0) rfl; have hz2 := HU2.out.lt; clear hb2))
        | (go_at_call 28; (refine (unit_any _ _ _ _ ws [] fs (HF.out.below (new_ HB2.out _)) (HW.out.below (new_ HB2.out _)) (show ComfAt _ _ [] from Rds.nil_) (by omega) (by simp)).mono ?_; rintro e w3 ⟨v3, c3, rfl, hv3, hc3, hb3⟩; have HA3 := Lib.hid ((Row.new' w2 56 #[.string ⟨f.toArray⟩, .int .i64 p] rfl).below hb3 (by simp)); have HV3 := Lib.hid hv3; have HB3 := Lib.hid (then_ (new_ HB2.out _) hb3); have HU3 := Lib.hid ((HU2.out.alloc (.cells #[.string ⟨f.toArray⟩, .int .i64 p] 56)).below hb3 (HU2.out.alloc _).lt); have hz3 := hb3.size; clear hb3 hv3 hc3))
        | (go_at_call 27; (refine (ref_locate _ _ _ _ fs ws k (HF.out.below HB3.out) HV3.out _ HR.out).mono ?_; rintro e w4 ⟨rfl, hb4⟩; unfold locV; have HA4 := Lib.hid (HA3.out.below hb4 HA3.out.lt); have HB4 := Lib.hid (then_ HB3.out hb4); have HU4 := Lib.hid (HU3.out.below hb4 HU3.out.lt); clear hb4)))
      obtain ⟨W5, hW5⟩ : ∃ W5, W5 = w4.alloc (.cells #[.string ⟨f.toArray⟩, .int .i64 p] 59) := ⟨_, rfl⟩
      rw [← hW5]
      have RA := Lib.hid (show Row W5 w2.heap.size 56 #[.string ⟨f.toArray⟩, .int .i64 p] by rw [hW5]; exact HA4.out.alloc _)
      have RB := Lib.hid (show Row W5 w4.heap.size 59 #[.string ⟨f.toArray⟩, .int .i64 p] by rw [hW5]; exact Row.new _ _ _)
      have RU := Lib.hid (show Row W5 w.heap.size 54 #[.slice fA fs.length fc, .slice wA ws.length wc, .slice none 0 0] by rw [hW5]; exact HU4.out.alloc _)
      have HB5 := Lib.hid (show Below w.heap.size w W5 by rw [hW5]; exact new_ HB4.out _)
      have HX := Lib.hid (show Below W5.heap.size W5 W5.drew from (Below.refl _ _).drew)
      have a0 := RA.out.cell (i := 0) (v := .string ⟨f.toArray⟩) rfl
      have a1 := RA.out.cell (i := 1) (v := .int .i64 p) rfl
      have b0 := RB.out.cell (i := 0) (v := .string ⟨f.toArray⟩) rfl
      have b1 := RB.out.cell (i := 1) (v := .int .i64 p) rfl
      have u0 := RU.out.cell (i := 0) (v := .slice fA fs.length fc) rfl
      have u1 := RU.out.cell (i := 1) (v := .slice wA ws.length wc) rfl
      have u2 := RU.out.cell (i := 2) (v := .slice none 0 0) rfl
      generalize w2.heap.size = ga at *
      generalize w4.heap.size = gb at *
      clear hW5 HA3 HA4 HB4 HU4 HB3 HU3 HV3 HB2 HU2 HU HB hz2 hz3
      clear w4 w3
      have hh := heldFault
      go_region_held3 (fun w' => w'.cell? ⟨ga, 0, none⟩ = some (.string ⟨f.toArray⟩) ∧ w'.cell? ⟨ga, 1, none⟩ = some (.int .i64 p) ∧ w'.cell? ⟨gb, 0, none⟩ = some (.string ⟨f.toArray⟩) ∧ w'.cell? ⟨gb, 1, none⟩ = some (.int .i64 p) ∧ w'.cell? ⟨w.heap.size, 0, none⟩ = some (.slice fA fs.length fc) ∧ w'.cell? ⟨w.heap.size, 1, none⟩ = some (.slice wA ws.length wc) ∧ w'.cell? ⟨w.heap.size, 2, none⟩ = some (.slice none 0 0)) (exact ⟨a0, a1, b0, b1, u0, u1, u2⟩)
        (first
          | (go_at_call 29; (refine (texts_any _ _ _ _ ws (HW.out.below (then_ HB5.out HX.out)) (by omega)).mono ?_; rintro e w6 ⟨v6, rfl, hv6, hb6⟩; obtain ⟨q6, c6, rfl⟩ := hv6.form; have HX := Lib.hid (then_ HX.out hb6); (try (have HT1 := Lib.hid (HT1.out.below hb6))); (try (have HT2 := Lib.hid (HT2.out.below hb6))); (try (have HV7 := Lib.hid (HV7.out.below hb6))); have a0 := (RA.out.below HX.out RA.out.lt).cell (i := 0) (v := .string ⟨f.toArray⟩) rfl; have a1 := (RA.out.below HX.out RA.out.lt).cell (i := 1) (v := .int .i64 p) rfl; have b0 := (RB.out.below HX.out RB.out.lt).cell (i := 0) (v := .string ⟨f.toArray⟩) rfl; have b1 := (RB.out.below HX.out RB.out.lt).cell (i := 1) (v := .int .i64 p) rfl; have u0 := (RU.out.below HX.out RU.out.lt).cell (i := 0) (v := .slice fA fs.length fc) rfl; have u1 := (RU.out.below HX.out RU.out.lt).cell (i := 1) (v := .slice wA ws.length wc) rfl; have u2 := (RU.out.below HX.out RU.out.lt).cell (i := 2) (v := .slice none 0 0) rfl; have HT1 := Lib.hid hv6; clear hb6 hv6))
          | (go_at_call 28; (refine (unit_any _ _ _ _ ws [] fs (HF.out.below (then_ HB5.out HX.out)) (HW.out.below (then_ HB5.out HX.out)) (show ComfAt _ _ [] from Rds.nil_) (by omega) (by simp)).mono ?_; rintro e w7 ⟨v7, c7, rfl, hv7, hc7, hb7⟩; have HX := Lib.hid (then_ HX.out hb7); (try (have HT1 := Lib.hid (HT1.out.below hb7))); (try (have HT2 := Lib.hid (HT2.out.below hb7))); (try (have HV7 := Lib.hid (HV7.out.below hb7))); have a0 := (RA.out.below HX.out RA.out.lt).cell (i := 0) (v := .string ⟨f.toArray⟩) rfl; have a1 := (RA.out.below HX.out RA.out.lt).cell (i := 1) (v := .int .i64 p) rfl; have b0 := (RB.out.below HX.out RB.out.lt).cell (i := 0) (v := .string ⟨f.toArray⟩) rfl; have b1 := (RB.out.below HX.out RB.out.lt).cell (i := 1) (v := .int .i64 p) rfl; have u0 := (RU.out.below HX.out RU.out.lt).cell (i := 0) (v := .slice fA fs.length fc) rfl; have u1 := (RU.out.below HX.out RU.out.lt).cell (i := 1) (v := .slice wA ws.length wc) rfl; have u2 := (RU.out.below HX.out RU.out.lt).cell (i := 2) (v := .slice none 0 0) rfl; have HV7 := Lib.hid hv7; clear hb7 hv7 hc7))
          | (go_at_call 30; (refine (ref_texts _ _ _ _ ws HV7.out (by omega)).mono ?_; rintro e w8 ⟨v8, rfl, hv8, hb8⟩; have HX := Lib.hid (then_ HX.out hb8); (try (have HT1 := Lib.hid (HT1.out.below hb8))); (try (have HT2 := Lib.hid (HT2.out.below hb8))); (try (have HV7 := Lib.hid (HV7.out.below hb8))); have a0 := (RA.out.below HX.out RA.out.lt).cell (i := 0) (v := .string ⟨f.toArray⟩) rfl; have a1 := (RA.out.below HX.out RA.out.lt).cell (i := 1) (v := .int .i64 p) rfl; have b0 := (RB.out.below HX.out RB.out.lt).cell (i := 0) (v := .string ⟨f.toArray⟩) rfl; have b1 := (RB.out.below HX.out RB.out.lt).cell (i := 1) (v := .int .i64 p) rfl; have u0 := (RU.out.below HX.out RU.out.lt).cell (i := 0) (v := .slice fA fs.length fc) rfl; have u1 := (RU.out.below HX.out RU.out.lt).cell (i := 1) (v := .slice wA ws.length wc) rfl; have u2 := (RU.out.below HX.out RU.out.lt).cell (i := 2) (v := .slice none 0 0) rfl; have HT2 := Lib.hid hv8; obtain ⟨q8, c8, rfl⟩ := hv8.form; clear hb8 hv8))
          | (go_at_call 18; (refine (equal_str_same _ _ _ _ HT1.out HT2.out).mono ?_; rintro e w9 ⟨rfl, hb9⟩; have HX := Lib.hid (then_ HX.out hb9); (try (have HT1 := Lib.hid (HT1.out.below hb9))); (try (have HT2 := Lib.hid (HT2.out.below hb9))); (try (have HV7 := Lib.hid (HV7.out.below hb9))); have a0 := (RA.out.below HX.out RA.out.lt).cell (i := 0) (v := .string ⟨f.toArray⟩) rfl; have a1 := (RA.out.below HX.out RA.out.lt).cell (i := 1) (v := .int .i64 p) rfl; have b0 := (RB.out.below HX.out RB.out.lt).cell (i := 0) (v := .string ⟨f.toArray⟩) rfl; have b1 := (RB.out.below HX.out RB.out.lt).cell (i := 1) (v := .int .i64 p) rfl; have u0 := (RU.out.below HX.out RU.out.lt).cell (i := 0) (v := .slice fA fs.length fc) rfl; have u1 := (RU.out.below HX.out RU.out.lt).cell (i := 1) (v := .slice wA ws.length wc) rfl; have u2 := (RU.out.below HX.out RU.out.lt).cell (i := 2) (v := .slice none 0 0) rfl; clear hb9))
          | (go_at_call 25; (refine (awake02 _ (HM.out.below (then_ HB5.out HX.out))).mono ?_; rintro e w10 ⟨rfl, hb10⟩; have HX := Lib.hid (then_ HX.out hb10); (try (have HT1 := Lib.hid (HT1.out.below hb10))); (try (have HT2 := Lib.hid (HT2.out.below hb10))); (try (have HV7 := Lib.hid (HV7.out.below hb10))); have a0 := (RA.out.below HX.out RA.out.lt).cell (i := 0) (v := .string ⟨f.toArray⟩) rfl; have a1 := (RA.out.below HX.out RA.out.lt).cell (i := 1) (v := .int .i64 p) rfl; have b0 := (RB.out.below HX.out RB.out.lt).cell (i := 0) (v := .string ⟨f.toArray⟩) rfl; have b1 := (RB.out.below HX.out RB.out.lt).cell (i := 1) (v := .int .i64 p) rfl; have u0 := (RU.out.below HX.out RU.out.lt).cell (i := 0) (v := .slice fA fs.length fc) rfl; have u1 := (RU.out.below HX.out RU.out.lt).cell (i := 1) (v := .slice wA ws.length wc) rfl; have u2 := (RU.out.below HX.out RU.out.lt).cell (i := 2) (v := .slice none 0 0) rfl; clear hb10)))
      all_goals
        go_wp2
        go_ret
        exact ⟨rfl, then_ HB5.out HX.out⟩
    · have e2 : decide ((100 : Int) < (ws.length : Int)) = true := decide_eq_true (by omega)
      go_enter Try.func5, Try.ntmps5
      go_wp2_with (go_at_call 25; refine (awake02 _ HM.out).mono ?_; rintro e w1 ⟨rfl, hb1⟩)
      go_ret
      exact ⟨rfl, hb1⟩
  · have e1 : decide ((100 : Int) < (fs.length : Int)) = true := decide_eq_true (by omega)
    go_enter Try.func5, Try.ntmps5
    go_wp2_with (go_at_call 25; refine (awake02 _ HM.out).mono ?_; rintro e w1 ⟨rfl, hb1⟩)
    go_ret
    exact ⟨rfl, hb1⟩
end Go.Proofs.Ytignhjfobcnloaa
