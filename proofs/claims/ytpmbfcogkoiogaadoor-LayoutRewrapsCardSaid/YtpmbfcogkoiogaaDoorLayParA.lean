/- The statements about layer 3: what their laws share: words, Same, awake. The statements about layer 3: awake. -/
import Derived.Test.YtpmbfcogkoiogaaDoorLayReadA
import Derived.Test.YtpmbfcogkoiogaaDoorStrA
section
namespace Go.Proofs.YtpmbfcogkoiogaaDoor
open Go.RowKit
/-- few and short words -/
def fewB (l : List (List UInt8)) : Bool := decide (l.length ≤ 400) && decide (l.flatten.length ≤ 3000)
theorem words_law (w : World) (v : Value) (l : List (List UInt8)) (hv : Strs w v l) (hF : l.flatten.length ≤ 1048576) (hL : l.length ≤ 1048576) :
    Calls Tryd.prog 9 #[v] w fun e w' => e = .returned (.bool (fewB l)) ∧ Below w.heap.size w w' := by
  have HV := Lib.hid hv
  obtain ⟨A, c, rfl, -⟩ := hv.open_
  obtain ⟨F, hFF⟩ : ∃ F, l.flatten = F := ⟨_, rfl⟩
  have HFF := Lib.hid hFF
  rw [hFF] at hF
  obtain ⟨b1, h1⟩ : ∃ b, decide (l.length ≤ 400) = b := ⟨_, rfl⟩
  obtain ⟨b2, h2⟩ : ∃ b, decide (F.length ≤ 3000) = b := ⟨_, rfl⟩
  have e1 : decide ((l.length : Int) ≤ 400) = b1 := by rw [← h1, decide_eq_decide]; omega
  have e2 : decide ((F.length : Int) ≤ 3000) = b2 := by rw [← h2, decide_eq_decide]; omega
  have HR : Hid (fewB l = (b1 && b2)) := Lib.hid (by unfold fewB; rw [h1, HFF.out, h2])
  have HB1 : Hid (F.length ≤ 140737488355328) := Lib.hid (by omega)
  have HB2 : Hid (l.length ≤ 140737488355328) := Lib.hid (by omega)
  rw [HR.out]
  clear hv hFF h1 h2
  cases b1
  · go_enter Tryd.func9, Tryd.ntmps9
    go_wp2
    go_ret
    exact ⟨rfl, Below.refl _ _⟩
  · go_enter Tryd.func9, Tryd.ntmps9
    go_wp2_with (go_at_call 29; (refine (join_any _ _ l HV.out (by rw [HFF.out]; exact HB1.out) HB2.out).mono ?_; rw [HFF.out]; rintro e w2 ⟨rfl, hb2⟩))
    go_ret
    exact ⟨rfl, hb2⟩
set_option maxRecDepth 100000 in
theorem same_any (w : World) (x : StmD) (t1 p1 t2 p2 : Value) (h1 : Strs w t1 x.text) (h2 : Strs w p1 x.proof) (h3 : Strs w t2 x.text) (h4 : Strs w p2 x.proof) :
    Calls Tryd.prog 17 #[stmV x.kind x.label t1 p1, stmV x.kind x.label t2 p2] w fun e w' => e = .returned (.bool true) ∧ Below w.heap.size w w' := by
  obtain ⟨kz, l, tx, px⟩ := x
  dsimp only at h1 h2 h3 h4 ⊢
  have H1 := Lib.hid h1
  have H2 := Lib.hid h2
  have H3 := Lib.hid h3
  have H4 := Lib.hid h4
  obtain ⟨T1, c1, rfl, -⟩ := h1.open_
  obtain ⟨P1, d1, rfl, -⟩ := h2.open_
  obtain ⟨T2, c2, rfl, -⟩ := h3.open_
  obtain ⟨P2, d2, rfl, -⟩ := h4.open_
  clear h1 h2 h3 h4
  obtain ⟨W0, hW0⟩ : ∃ W0, W0 = (w.alloc (.cells #[.int .i64 kz, .string ⟨l.toArray⟩, .slice T1 tx.length c1, .slice P1 px.length d1] 34)).alloc (.cells #[.int .i64 kz, .string ⟨l.toArray⟩, .slice T2 tx.length c2, .slice P2 px.length d2] 34) := ⟨_, rfl⟩
  have hb0 : Below w.heap.size w W0 := by rw [hW0]; exact new_ (new_ (Below.refl _ _) _) _
  have hX0 : Row W0 w.heap.size 34 #[.int .i64 kz, .string ⟨l.toArray⟩, .slice T1 tx.length c1, .slice P1 px.length d1] := by rw [hW0]; exact (Row.new _ _ _).alloc _
  have hY0 : Row W0 (w.heap.size + 1) 34 #[.int .i64 kz, .string ⟨l.toArray⟩, .slice T2 tx.length c2, .slice P2 px.length d2] := by rw [hW0]; exact Row.new' _ _ _ (by simp)
  have q0 := hX0.cell (i := 0) (v := .int .i64 kz) rfl
  have q1 := hX0.cell (i := 1) (v := .string ⟨l.toArray⟩) rfl
  have q2 := hX0.cell (i := 2) (v := .slice T1 tx.length c1) rfl
  have y0 := hY0.cell (i := 0) (v := .int .i64 kz) rfl
  have y1 := hY0.cell (i := 1) (v := .string ⟨l.toArray⟩) rfl
  have y2 := hY0.cell (i := 2) (v := .slice T2 tx.length c2) rfl
  have HX := Lib.hid hX0
  have HY := Lib.hid hY0
  have HB := Lib.hid hb0
  have HW0 := Lib.hid hW0
  have t1 : (kz == kz) = true := by simp
  have t2 : (l == l) = true := by simp
  clear hX0 hY0 hb0 hW0
  unfold stmV
  go_enter Tryd.func17, Tryd.ntmps17
  go_upto_region 1 with fail
  rw [← HW0.out]
  go_wp2_with fail
  refine (equal_str_same _ _ _ tx (Strs.below H1.out HB.out) (Strs.below H3.out HB.out)).mono ?_
  rintro e w2 ⟨rfl, hb2⟩
  have q3 := (HX.out.below hb2 HX.out.lt).cell (i := 3) (v := .slice P1 px.length d1) rfl
  have y3 := (HY.out.below hb2 HY.out.lt).cell (i := 3) (v := .slice P2 px.length d2) rfl
  have HB2 := Lib.hid (then_ HB.out hb2)
  clear hb2 q0 q1 q2 y0 y1 y2
  go_wp2_with fail
  refine (equal_str_same _ _ _ px (Strs.below H2.out HB2.out) (Strs.below H4.out HB2.out)).mono ?_
  rintro e w3 ⟨rfl, hb3⟩
  go_wp2_with fail
  go_ret
  exact ⟨rfl, then_ HB2.out hb3⟩
set_option maxRecDepth 100000 in
theorem equalStms (w : World) (v1 v2 : Value) (l : List StmD) (h1 : Stms w v1 l) (h2 : Stms w v2 l) :
    Calls Tryd.prog 16 #[v1, v2, .func (.func 17) #[] #[]] w fun e w' => e = .returned (.bool true) ∧ Below w.heap.size w w' := by
  obtain ⟨A1, c1, rfl, hc1, hm1, hx1⟩ := h1.open_
  obtain ⟨A2, c2, rfl, hc2, hm2, hx2⟩ := h2.open_
  unfold maxLen at hm1 hm2
  have HX1 := Lib.hid hx1
  have HX2 := Lib.hid hx2
  clear hx1 hx2 h1 h2
  go_enter Tryd.func16, Tryd.ntmps16
  go_wp2
  go_loopw [17] (fun i wr => ∃ k : Nat, k ≤ l.length ∧ i = .int .i64 k ∧ Below w.heap.size w wr) (fun i _ => l.length - (intOf i).toNat)
  case atStart => exact ⟨0, Nat.zero_le _, rfl, Below.refl _ _⟩
  case round =>
    obtain ⟨k, hk, rfl, hb⟩ := hrel
    have HB := Lib.hid hb
    clear hb
    by_cases hlt : k < l.length
    · obtain ⟨y, hy⟩ : ∃ y, l[k]? = some y := ⟨_, List.getElem?_eq_getElem hlt⟩
      obtain ⟨b, o, tv, pv, rfl, g0, g1, g2, g3, hT, hP⟩ := HX1.out k y hy
      obtain ⟨b', o', tv', pv', rfl, g0', g1', g2', g3', hT', hP'⟩ := HX2.out k y hy
      have hlb := block_lt_of_cell g0
      have hlb' := block_lt_of_cell g0'
      obtain ⟨T1, d1, rfl, -⟩ := hT.open_
      obtain ⟨P1, d2, rfl, -⟩ := hP.open_
      obtain ⟨T2, d3, rfl, -⟩ := hT'.open_
      obtain ⟨P2, d4, rfl, -⟩ := hP'.open_
      have q0 : wr.cell? ⟨b, o + k * 4, none⟩ = some (.int .i64 y.kind) := (HB.out.cell (p := ⟨b, o + k * 4, none⟩) hlb).trans g0
      have q1 : wr.cell? ⟨b, o + k * 4 + 1, none⟩ = some (.string ⟨y.label.toArray⟩) := (HB.out.cell (p := ⟨b, o + k * 4 + 1, none⟩) hlb).trans g1
      have q2 : wr.cell? ⟨b, o + k * 4 + 2, none⟩ = some (.slice T1 y.text.length d1) := (HB.out.cell (p := ⟨b, o + k * 4 + 2, none⟩) hlb).trans g2
      have q3 : wr.cell? ⟨b, o + k * 4 + 3, none⟩ = some (.slice P1 y.proof.length d2) := (HB.out.cell (p := ⟨b, o + k * 4 + 3, none⟩) hlb).trans g3
      have r0 : wr.cell? ⟨b', o' + k * 4, none⟩ = some (.int .i64 y.kind) := (HB.out.cell (p := ⟨b', o' + k * 4, none⟩) hlb').trans g0'
      have r1 : wr.cell? ⟨b', o' + k * 4 + 1, none⟩ = some (.string ⟨y.label.toArray⟩) := (HB.out.cell (p := ⟨b', o' + k * 4 + 1, none⟩) hlb').trans g1'
      have r2 : wr.cell? ⟨b', o' + k * 4 + 2, none⟩ = some (.slice T2 y.text.length d3) := (HB.out.cell (p := ⟨b', o' + k * 4 + 2, none⟩) hlb').trans g2'
      have r3 : wr.cell? ⟨b', o' + k * 4 + 3, none⟩ = some (.slice P2 y.proof.length d4) := (HB.out.cell (p := ⟨b', o' + k * 4 + 3, none⟩) hlb').trans g3'
      have hbl : b < wr.heap.size := Nat.lt_of_lt_of_le hlb HB.out.size
      have hbl' : b' < wr.heap.size := Nat.lt_of_lt_of_le hlb' HB.out.size
      have HT := Lib.hid hT
      have HP := Lib.hid hP
      have HT' := Lib.hid hT'
      have HP' := Lib.hid hP'
      clear hy hT hP hT' hP' g0 g1 g2 g3 g0' g1' g2' g3'
      go_wp2_with (go_at_call 17; (refine (same_any _ y _ _ _ _ ((Strs.below HT.out HB.out).below (new_ (new_ (Below.refl _ _) _) _)) ((Strs.below HP.out HB.out).below (new_ (new_ (Below.refl _ _) _) _)) ((Strs.below HT'.out HB.out).below (new_ (new_ (Below.refl _ _) _) _)) ((Strs.below HP'.out HB.out).below (new_ (new_ (Below.refl _ _) _) _))).mono ?_; rintro e w2 ⟨rfl, hb2⟩))
      go_roundw
      case rel => exact ⟨k + 1, by omega, by go_num, then_ (new_ (new_ HB.out _) _) hb2⟩
      case measure => simp [intOf]; omega
    · go_wp2
      go_ret
      exact ⟨rfl, HB.out⟩
end Go.Proofs.YtpmbfcogkoiogaaDoor
end
section
namespace Go.Proofs.YtpmbfcogkoiogaaDoor
open Go.RowKit
theorem parse_awake : parseS [[119, 112], [36, 102], [119, 102, 102], [112], [36, 46]] = ([⟨3, [119, 112], [[119, 102, 102], [112]], []⟩], 0, 0) := by kernel_rfl
set_option maxRecDepth 100000 in
set_option maxHeartbeats 4000000 in
theorem awake03 (w : World) (hF : FormsAt w) : Calls Tryd.prog 11 #[] w fun e w' => e = .returned (.bool true) ∧ Below w.heap.size w w' := by
  have HF := Lib.hid hF
  clear hF
  obtain ⟨L, hL⟩ : ∃ L : List (List UInt8), L = [[119, 112], [36, 102], [119, 102, 102], [112], [36, 46]] := ⟨_, rfl⟩
  have HPA : Hid (parseS L = ([⟨3, [119, 112], [[119, 102, 102], [112]], []⟩], 0, 0)) := Lib.hid (by rw [hL]; exact parse_awake)
  have HLL := Lib.hid hL
  clear hL
  go_enter Tryd.func11, Tryd.ntmps11
  go_wp2_with fail
  obtain ⟨W1, hW1⟩ : ∃ W1, W1 = w.alloc (.cells #[.string ⟨#[119, 112]⟩, .string ⟨#[36, 102]⟩, .string ⟨#[119, 102, 102]⟩, .string ⟨#[112]⟩, .string ⟨#[36, 46]⟩] 9) := ⟨_, rfl⟩
  rw [← hW1]
  have HB1 : Hid (Below w.heap.size w W1) := Lib.hid (by rw [hW1]; exact new_ (Below.refl _ _) _)
  have HS1 : Hid (Strs W1 (.slice (some ⟨w.heap.size, 0, none⟩) 5 5) L) := Lib.hid (by
    rw [hW1, HLL.out]
    exact Rds.lit (size := 1) w 9 #[.string ⟨#[119, 112]⟩, .string ⟨#[36, 102]⟩, .string ⟨#[119, 102, 102]⟩, .string ⟨#[112]⟩, .string ⟨#[36, 46]⟩] 5 rfl (by decide))
  clear hW1
  refine (parse_any W1 _ L HS1.out (HF.out.below HB1.out)).mono ?_
  rw [HPA.out]
  rintro e w2 ⟨v2, rfl, hv2, hb2⟩
  obtain ⟨A, c, rfl, hc, hm, hx⟩ := hv2.open_
  obtain ⟨b, o, tv, pv, rfl, g0, g1, g2, g3, hT, hP⟩ := hx 0 _ rfl
  have hlb := block_lt_of_cell g0
  have HT := Lib.hid hT
  obtain ⟨T1, d1, rfl, -⟩ := hT.open_
  have HB2 := Lib.hid (then_ HB1.out hb2)
  have q0 : w2.cell? ⟨b, o, none⟩ = some (.int .i64 3) := by simpa using g0
  have q1 : w2.cell? ⟨b, o + 1, none⟩ = some (.string ⟨#[119, 112]⟩) := by simpa using g1
  have q2 : w2.cell? ⟨b, o + 2, none⟩ = some (.slice T1 2 d1) := by simpa using g2
  clear hv2 hx g0 g1 g2 g3 hT hP hb2 hm hc
  go_wp2_with fail
  refine (equal_str_same _ _ _ [[119, 102, 102], [112]] (Strs.alloc HT.out _) (Rds.lit (size := 1) w2 9 #[.string ⟨#[119, 102, 102]⟩, .string ⟨#[112]⟩] 2 rfl (by decide))).mono ?_
  rintro e w3 ⟨rfl, hb3⟩
  go_wp2_with fail
  go_ret
  exact ⟨rfl, then_ (new_ HB2.out _) hb3⟩
end Go.Proofs.YtpmbfcogkoiogaaDoor
end
