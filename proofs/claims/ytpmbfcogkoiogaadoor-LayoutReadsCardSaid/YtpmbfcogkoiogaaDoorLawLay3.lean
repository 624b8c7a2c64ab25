/- The statements about layer 3: awake. -/
import Derived.Test.YtpmbfcogkoiogaaDoorLawLay1
namespace Go.Proofs.YtpmbfcogkoiogaaDoor
open Go.RowKit
theorem parse_awake : parseS [[119, 112], [36, 102], [119, 102, 102], [112], [36, 46]] = ([⟨3, [119, 112], [[119, 102, 102], [112]], []⟩], 0, 0) := by kernel_rfl
set_option maxRecDepth 100000 in
set_option maxHeartbeats 4000000 in
theorem awake03 (w : World) (hF : FormsAt w) : Calls Tryd.prog 11 #[] w fun e w' => e = .returned (.bool true) ∧ Below w.heap.size w w' := by
  have HF := Lib.hid hF
  clear hF
  obtain ⟨L, hL⟩ : ∃ L : List (List UInt8), L = [[119, 112], [36, 102], [119, 102, 102], [112], [36, 46]] := ⟨_, rfl⟩
  have HPA : Hid (parseS L = ([⟨3, [119, 112], [[119, 102, 102], [112]], []⟩], 0, 0)) := Lib.hid (by rw [hL]; exact parse_awake)
  have HLL := Lib.hid hL
  clear hL
  go_enter Tryd.func11, Tryd.ntmps11
  go_wp2_with fail
  obtain ⟨W1, hW1⟩ : ∃ W1, W1 = w.alloc (.cells #[.string ⟨#[119, 112]⟩, .string ⟨#[36, 102]⟩, .string ⟨#[119, 102, 102]⟩, .string ⟨#[112]⟩, .string ⟨#[36, 46]⟩] 9) := ⟨_, rfl⟩
  rw [← hW1]
  have HB1 : Hid (Below w.heap.size w W1) := Lib.hid (by rw [hW1]; exact new_ (Below.refl _ _) _)
  have HS1 : Hid (Strs W1 (.slice (some ⟨w.heap.size, 0, none⟩) 5 5) L) := Lib.hid (by
    rw [hW1, HLL.out]
    exact Rds.lit (size := 1) w 9 #[.string ⟨#[119, 112]⟩, .string ⟨#[36, 102]⟩, .string ⟨#[119, 102, 102]⟩, .string ⟨#[112]⟩, .string ⟨#[36, 46]⟩] 5 rfl (by decide))
  clear hW1
  refine (parse_any W1 _ L HS1.out (HF.out.below HB1.out)).mono ?_
  rw [HPA.out]
  rintro e w2 ⟨v2, rfl, hv2, hb2⟩
  obtain ⟨A, c, rfl, hc, hm, hx⟩ := hv2.open_
  obtain ⟨b, o, tv, pv, rfl, g0, g1, g2, g3, hT, hP⟩ := hx 0 _ rfl
  have hlb := block_lt_of_cell g0
  have HT := Lib.hid hT
  obtain ⟨T1, d1, rfl, -⟩ := hT.open_
  have HB2 := Lib.hid (then_ HB1.out hb2)
  have q0 : w2.cell? ⟨b, o, none⟩ = some (.int .i64 3) := by simpa using g0
  have q1 : w2.cell? ⟨b, o + 1, none⟩ = some (.string ⟨#[119, 112]⟩) := by simpa using g1
  have q2 : w2.cell? ⟨b, o + 2, none⟩ = some (.slice T1 2 d1) := by simpa using g2
  clear hv2 hx g0 g1 g2 g3 hT hP hb2 hm hc
  go_wp2_with fail
  refine (equal_str_same _ _ _ [[119, 102, 102], [112]] (Strs.alloc HT.out _) (Rds.lit (size := 1) w2 9 #[.string ⟨#[119, 102, 102]⟩, .string ⟨#[112]⟩] 2 rfl (by decide))).mono ?_
  rintro e w3 ⟨rfl, hb3⟩
  go_wp2_with fail
  go_ret
  exact ⟨rfl, then_ (new_ HB2.out _) hb3⟩
end Go.Proofs.YtpmbfcogkoiogaaDoor
