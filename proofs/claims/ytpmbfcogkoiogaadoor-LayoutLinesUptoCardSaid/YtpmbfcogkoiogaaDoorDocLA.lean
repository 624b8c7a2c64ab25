/- Documents in the laws: equal, document, the reference's Statements. (Printed by gen_lawdoc.py.) Statements of a document; a document as the reference's. (Printed by gen_stmdoc.py.) Statements of a document; a document as the reference's. -/
import Derived.Test.YtpmbfcogkoiogaaDoorLayParA
import Derived.Test.YtpmbfcogkoiogaaDoorRefDoc
section
namespace Go.Proofs.YtpmbfcogkoiogaaDoor
open Go.RowKit
def partV (x : PartD) (tv pv gv : Value) : Value := .agg #[.int .i64 x.1.kind, .string ⟨x.1.label.toArray⟩, tv, pv, gv]
theorem part_same (w : World) (x : PartD) (t1 p1 g1 t2 p2 g2 : Value) (h1 : Strs w t1 x.1.text) (h2 : Strs w p1 x.1.proof) (h3 : Strs w g1 x.2) (h4 : Strs w t2 x.1.text) (h5 : Strs w p2 x.1.proof) (h6 : Strs w g2 x.2) :
    Calls Tryd.prog 50 #[partV x t1 p1 g1, partV x t2 p2 g2] w fun e w' => e = .returned (.bool true) ∧ Below w.heap.size w w' := by
  obtain ⟨⟨kz, l, tx, px⟩, gs⟩ := x
  dsimp only at h1 h2 h3 h4 h5 h6 ⊢
  have H1 := Lib.hid h1
  have H2 := Lib.hid h2
  have H3 := Lib.hid h3
  have H4 := Lib.hid h4
  have H5 := Lib.hid h5
  have H6 := Lib.hid h6
  obtain ⟨T1, c1, rfl, -⟩ := h1.open_
  obtain ⟨P1, c2, rfl, -⟩ := h2.open_
  obtain ⟨G1, c3, rfl, -⟩ := h3.open_
  obtain ⟨T2, c4, rfl, -⟩ := h4.open_
  obtain ⟨P2, c5, rfl, -⟩ := h5.open_
  obtain ⟨G2, c6, rfl, -⟩ := h6.open_
  clear h1 h2 h3 h4 h5 h6
  obtain ⟨W0, hW0⟩ : ∃ W0, W0 = (w.alloc (.cells #[.int .i64 kz, .string ⟨l.toArray⟩, .slice T1 tx.length c1, .slice P1 px.length c2, .slice G1 gs.length c3] 90)).alloc (.cells #[.int .i64 kz, .string ⟨l.toArray⟩, .slice T2 tx.length c4, .slice P2 px.length c5, .slice G2 gs.length c6] 90) := ⟨_, rfl⟩
  have hb0 : Below w.heap.size w W0 := by rw [hW0]; exact new_ (new_ (Below.refl _ _) _) _
  have hX0 : Row W0 w.heap.size 90 #[.int .i64 kz, .string ⟨l.toArray⟩, .slice T1 tx.length c1, .slice P1 px.length c2, .slice G1 gs.length c3] := by rw [hW0]; exact (Row.new _ _ _).alloc _
  have hY0 : Row W0 (w.heap.size + 1) 90 #[.int .i64 kz, .string ⟨l.toArray⟩, .slice T2 tx.length c4, .slice P2 px.length c5, .slice G2 gs.length c6] := by rw [hW0]; exact Row.new' _ _ _ (by simp)
  have q0 := hX0.cell (i := 0) (v := .int .i64 kz) rfl
  have q1 := hX0.cell (i := 1) (v := .string ⟨l.toArray⟩) rfl
  have q2 := hX0.cell (i := 2) (v := .slice T1 tx.length c1) rfl
  have q3 := hX0.cell (i := 3) (v := .slice P1 px.length c2) rfl
  have y0 := hY0.cell (i := 0) (v := .int .i64 kz) rfl
  have y1 := hY0.cell (i := 1) (v := .string ⟨l.toArray⟩) rfl
  have y2 := hY0.cell (i := 2) (v := .slice T2 tx.length c4) rfl
  have y3 := hY0.cell (i := 3) (v := .slice P2 px.length c5) rfl
  have HX := Lib.hid hX0
  have HY := Lib.hid hY0
  have HB := Lib.hid hb0
  have HW0 := Lib.hid hW0
  clear hX0 hY0 hb0 hW0
  unfold partV
  go_enter Tryd.func50, Tryd.ntmps50
  go_upto_region 1 with fail
  rw [← HW0.out]
  go_wp2_with fail
  refine (same_any _ ⟨kz, l, tx, px⟩ _ _ _ _ (Strs.below H1.out HB.out) (Strs.below H2.out HB.out) (Strs.below H4.out HB.out) (Strs.below H5.out HB.out)).mono ?_
  rintro e w2 ⟨rfl, hb2⟩
  have q4 := (HX.out.below hb2 HX.out.lt).cell (i := 4) (v := .slice G1 gs.length c3) rfl
  have y4 := (HY.out.below hb2 HY.out.lt).cell (i := 4) (v := .slice G2 gs.length c6) rfl
  have HB2 := Lib.hid (then_ HB.out hb2)
  clear hb2 q0 q1 q2 q3 y0 y1 y2 y3
  go_wp2_with fail
  refine (equal_str_same _ _ _ gs (Strs.below H3.out HB2.out) (Strs.below H6.out HB2.out)).mono ?_
  rintro e w3 ⟨rfl, hb3⟩
  go_wp2_with fail
  go_ret
  exact ⟨rfl, then_ HB2.out hb3⟩
set_option maxRecDepth 100000 in
theorem equalParts (w : World) (v1 v2 : Value) (l : List PartD) (h1 : Parts w v1 l) (h2 : Parts w v2 l) :
    Calls Tryd.prog 49 #[v1, v2, .func (.func 50) #[] #[]] w fun e w' => e = .returned (.bool true) ∧ Below w.heap.size w w' := by
  obtain ⟨A1, c1, rfl, hc1, hm1, hx1⟩ := h1.open_
  obtain ⟨A2, c2, rfl, hc2, hm2, hx2⟩ := h2.open_
  unfold maxLen at hm1 hm2
  have HX1 := Lib.hid hx1
  have HX2 := Lib.hid hx2
  clear hx1 hx2 h1 h2
  go_enter Tryd.func49, Tryd.ntmps49
  go_wp2
  go_loopw [17] (fun i wr => ∃ k : Nat, k ≤ l.length ∧ i = .int .i64 k ∧ Below w.heap.size w wr) (fun i _ => l.length - (intOf i).toNat)
  case atStart => exact ⟨0, Nat.zero_le _, rfl, Below.refl _ _⟩
  case round =>
    obtain ⟨k, hk, rfl, hb⟩ := hrel
    have HB := Lib.hid hb
    clear hb
    by_cases hlt : k < l.length
    · obtain ⟨y, hy⟩ : ∃ y, l[k]? = some y := ⟨_, List.getElem?_eq_getElem hlt⟩
      obtain ⟨b, o, tv, pv, gv, rfl, g0, g1, g2, g3, g4, hT, hP, hG⟩ := HX1.out k y hy
      obtain ⟨b', o', tv', pv', gv', rfl, g0', g1', g2', g3', g4', hT', hP', hG'⟩ := HX2.out k y hy
      obtain ⟨T1, d1, rfl, -⟩ := hT.open_
      obtain ⟨P1, e1, rfl, -⟩ := hP.open_
      obtain ⟨G1, f1, rfl, -⟩ := hG.open_
      obtain ⟨T2, d2, rfl, -⟩ := hT'.open_
      obtain ⟨P2, e2, rfl, -⟩ := hP'.open_
      obtain ⟨G2, f2, rfl, -⟩ := hG'.open_
      have q0 : wr.cell? ⟨b, o + k * 5, none⟩ = some (.int .i64 y.1.kind) := cellB g0 HB.out
      have q1 : wr.cell? ⟨b, o + k * 5 + 1, none⟩ = some (.string ⟨y.1.label.toArray⟩) := cellB g1 HB.out
      have q2 : wr.cell? ⟨b, o + k * 5 + 2, none⟩ = some (.slice T1 y.1.text.length d1) := cellB g2 HB.out
      have q3 : wr.cell? ⟨b, o + k * 5 + 3, none⟩ = some (.slice P1 y.1.proof.length e1) := cellB g3 HB.out
      have q4 : wr.cell? ⟨b, o + k * 5 + 4, none⟩ = some (.slice G1 y.2.length f1) := cellB g4 HB.out
      have r0 : wr.cell? ⟨b', o' + k * 5, none⟩ = some (.int .i64 y.1.kind) := cellB g0' HB.out
      have r1 : wr.cell? ⟨b', o' + k * 5 + 1, none⟩ = some (.string ⟨y.1.label.toArray⟩) := cellB g1' HB.out
      have r2 : wr.cell? ⟨b', o' + k * 5 + 2, none⟩ = some (.slice T2 y.1.text.length d2) := cellB g2' HB.out
      have r3 : wr.cell? ⟨b', o' + k * 5 + 3, none⟩ = some (.slice P2 y.1.proof.length e2) := cellB g3' HB.out
      have r4 : wr.cell? ⟨b', o' + k * 5 + 4, none⟩ = some (.slice G2 y.2.length f2) := cellB g4' HB.out
      have hbl : b < wr.heap.size := cell_lt q0
      have hbl' : b' < wr.heap.size := cell_lt r0
      have HT := Lib.hid hT
      have HP := Lib.hid hP
      have HG := Lib.hid hG
      have HT' := Lib.hid hT'
      have HP' := Lib.hid hP'
      have HG' := Lib.hid hG'
      clear hy hT hP hG hT' hP' hG' g0 g1 g2 g3 g4 g0' g1' g2' g3' g4'
      go_wp2_with (go_at_call 50; (refine (part_same _ y _ _ _ _ _ _ ((Strs.below HT.out HB.out).below (new_ (new_ (Below.refl _ _) _) _)) ((Strs.below HP.out HB.out).below (new_ (new_ (Below.refl _ _) _) _)) ((Strs.below HG.out HB.out).below (new_ (new_ (Below.refl _ _) _) _)) ((Strs.below HT'.out HB.out).below (new_ (new_ (Below.refl _ _) _) _)) ((Strs.below HP'.out HB.out).below (new_ (new_ (Below.refl _ _) _) _)) ((Strs.below HG'.out HB.out).below (new_ (new_ (Below.refl _ _) _) _))).mono ?_; rintro e w2 ⟨rfl, hb2⟩))
      go_roundw
      case rel => exact ⟨k + 1, by omega, by go_num, then_ (new_ (new_ HB.out _) _) hb2⟩
      case measure => simp [intOf]; omega
    · go_wp2
      go_ret
      exact ⟨rfl, HB.out⟩
theorem equal_doc (w : World) (v1 v2 : Value) (tl : List UInt8) (l : List PartD) (h1 : Parts w v1 l) (h2 : Parts w v2 l) :
    Calls Tryd.prog 21 #[.agg #[v1, .string ⟨tl.toArray⟩], .agg #[v2, .string ⟨tl.toArray⟩]] w fun e w' => e = .returned (.bool true) ∧ Below w.heap.size w w' := by
  have H1 := Lib.hid h1
  have H2 := Lib.hid h2
  obtain ⟨A1, c1, rfl⟩ := h1.form
  obtain ⟨A2, c2, rfl⟩ := h2.form
  clear h1 h2
  have t1 : (tl == tl) = true := by simp
  go_enter Tryd.func21, Tryd.ntmps21
  go_wp2_with fail
  refine (equalParts _ _ _ l (H1.out.below (new_ (new_ (Below.refl _ _) _) _)) (H2.out.below (new_ (new_ (Below.refl _ _) _) _))).mono ?_
  rintro e w2 ⟨rfl, hb2⟩
  go_wp2_with fail
  go_ret
  exact ⟨rfl, then_ (new_ (new_ (Below.refl _ _) _) _) hb2⟩
end Go.Proofs.YtpmbfcogkoiogaaDoor
end
section
namespace Go.Proofs.YtpmbfcogkoiogaaDoor
open Go.RowKit
set_option maxRecDepth 100000 in
set_option maxHeartbeats 16000000 in
theorem stm_clones {W : World} {XB : Nat} {k : Int} {l : List UInt8} {tv pv : Value} {tx px : List (List UInt8)} {x0 x1 x2 x3 x4 x5 x7 x8 x9 x10 x11 x12 x13 x14 x15 x16 x17 x18 x19 x20 x21 x22 x23 x24 x25 x26 x27 x28 x29 : Value} {Q : Exit → Act → World → Prop} (hr : Row W XB 34 #[.int .i64 k, .string ⟨l.toArray⟩, tv, pv]) (hT : Strs W tv tx) (hP : Strs W pv px) (hn1 : tx.length ≤ 1000000) (hn2 : px.length ≤ 1000000)
    (hQ : ∀ (y16 y17 y18 y19 y20 y21 y22 y23 V2 V3 : Value) (W' : World), XAt W' V2 V3 ⟨k, l, tx, px⟩ → Below W.heap.size W W' → Q .normal { tmps := #[x0, x1, x2, x3, x4, x5, .pointer (some ⟨XB, 0, none⟩), x7, x8, x9, x10, x11, x12, x13, x14, x15, y16, y17, y18, y19, y20, y21, y22, y23, x24, x25, x26, x27, x28, x29], defers := [] } ((W'.setCell ⟨XB, 2, none⟩ V2).setCell ⟨XB, 3, none⟩ V3)) :
    (regC 6 (Tryd.f23.body.getD .skip)).wp Tryd.prog Q { tmps := #[x0, x1, x2, x3, x4, x5, .pointer (some ⟨XB, 0, none⟩), x7, x8, x9, x10, x11, x12, x13, x14, x15, x16, x17, x18, x19, x20, x21, x22, x23, x24, x25, x26, x27, x28, x29], defers := [] } W := by
  obtain ⟨T1, c1, rfl, -⟩ := hT.open_
  obtain ⟨P1, d1, rfl, -⟩ := hP.open_
  have q2 := hr.cell (i := 2) (v := .slice T1 tx.length c1) rfl
  have q3 := hr.cell (i := 3) (v := .slice P1 px.length d1) rfl
  have hlt := hr.lt
  have HR := Lib.hid hr
  have HT := Lib.hid hT
  have HP := Lib.hid hP
  clear hr hT hP
  refine Code.wp_mono (Q := normalOnly fun a W' => ∃ (y16 y17 y18 y19 y20 y21 y22 y23 V2 V3 : Value) (W1 : World), a = { tmps := #[x0, x1, x2, x3, x4, x5, .pointer (some ⟨XB, 0, none⟩), x7, x8, x9, x10, x11, x12, x13, x14, x15, y16, y17, y18, y19, y20, y21, y22, y23, x24, x25, x26, x27, x28, x29], defers := [] } ∧ W' = (W1.setCell ⟨XB, 2, none⟩ V2).setCell ⟨XB, 3, none⟩ V3 ∧ XAt W1 V2 V3 ⟨k, l, tx, px⟩ ∧ Below W.heap.size W W1) ?post ?main
  case post =>
    intro e a W' h
    cases e with
    | normal =>
      obtain ⟨y16, y17, y18, y19, y20, y21, y22, y23, V2, V3, W1, rfl, rfl, h1, h2⟩ := h
      exact hQ _ _ _ _ _ _ _ _ V2 V3 W1 h1 h2
    | _ => exact False.elim h
  clear hQ
  show Code.wp _ (Code.region 6 _ _) _ _ _
  refine wp_region_held_drew (S := fun _ => True) (by kernel_rfl) trivial (fun hS => ?_)
  refine wpAnyH_take (i := 0) (oi := ?oi0_1) (v := ?v0_1) ?hi0_1 (by kernel_rfl) (by kernel_rfl) (by kernel_rfl) (fun _ _ _ h => False.elim h) (Or.inl ⟨?hw0_1, fun W hW => ?hr0_1⟩) hS ?rest0_1
  case hi0_1 => (simp only [List.getElem?_toArray, List.getElem?_cons_zero]; rfl)
  case hw0_1 => rfl
  case hr0_1 => (go_simp; try with_reducible rfl)
  try simp only [Act.put, List.setIfInBounds_toArray, List.set_cons_zero, List.set_cons_succ]
  refine wpAnyH_take (i := 3) (oi := ?oi3_2) (v := ?v3_2) ?hi3_2 (by kernel_rfl) (by kernel_rfl) (by kernel_rfl) (fun _ _ _ h => False.elim h) (Or.inl ⟨?hw3_2, fun W hW => ?hr3_2⟩) hS ?rest3_2
  case hi3_2 => (simp only [List.getElem?_toArray, List.getElem?_cons_succ, List.getElem?_cons_zero]; rfl)
  case hw3_2 => rfl
  case hr3_2 => (go_simp; try with_reducible rfl)
  try simp only [Act.put, List.setIfInBounds_toArray, List.set_cons_zero, List.set_cons_succ]
  refine wpAnyH_ready (rs := [1, 4]) (by kernel_rfl) (by simp) (AllReadyH.cons (o := ?oa_3) ?ha_3 (fun K hK => ?sa_3) (AllReadyH.cons (o := ?ob_3) ?hb_3 (fun K hK => ?sb_3) AllReadyH.nil))
  case ha_3 => (simp only [List.getElem?_toArray, List.getElem?_cons_succ, List.getElem?_cons_zero]; rfl)
  case hb_3 => (simp only [List.getElem?_toArray, List.getElem?_cons_succ, List.getElem?_cons_zero]; rfl)
  case sa_3 =>
    have q := q2
    go_simp
    refine hK.out _ _ trivial (fun hS => ?_)
    clear hK K
    try simp only [Act.put, List.setIfInBounds_toArray, List.set_cons_zero, List.set_cons_succ]
    refine wpAnyH_ready (rs := [2, 4]) (by kernel_rfl) (by simp) (AllReadyH.cons (o := ?oa_4) ?ha_4 (fun K hK => ?sa_4) (AllReadyH.cons (o := ?ob_4) ?hb_4 (fun K hK => ?sb_4) AllReadyH.nil))
    case ha_4 => (simp only [List.getElem?_toArray, List.getElem?_cons_succ, List.getElem?_cons_zero]; rfl)
    case hb_4 => (simp only [List.getElem?_toArray, List.getElem?_cons_succ, List.getElem?_cons_zero]; rfl)
    case sa_4 =>
      go_simp
      go_at_call 36
      refine (clone_own _ (.slice T1 tx.length c1) tx (Strs.below HT.out (Below.refl _ _).drew) (by omega)).mono ?_
      rintro e wA ⟨V2, rfl, hoA, hbA⟩
      have hvA : Strs wA V2 tx := Rds.of_own hoA
      have htA := TyB.of_own hoA
      obtain ⟨AA, cA, rfl, -⟩ := hvA.open_
      go_wp2_with fail
      refine hK.out _ _ trivial (fun hS => ?_)
      clear hK K
      try simp only [Act.put, List.setIfInBounds_toArray, List.set_cons_zero, List.set_cons_succ]
      refine wpAnyH_ready (rs := [4]) (by kernel_rfl) (by simp) (AllReadyH.cons (o := ?oi4_5) ?hi4_5 (fun K hK => ?step4_5) AllReadyH.nil)
      case hi4_5 => (simp only [List.getElem?_toArray, List.getElem?_cons_succ, List.getElem?_cons_zero]; rfl)
      have q := cellB q3 ((Below.refl _ _).drew.trans hbA)
      go_simp
      refine hK.out _ _ trivial (fun hS => ?_)
      clear hK K
      try simp only [Act.put, List.setIfInBounds_toArray, List.set_cons_zero, List.set_cons_succ]
      refine wpAnyH_take (i := 6) (oi := ?oi6_6) (v := ?v6_6) ?hi6_6 (by kernel_rfl) (by kernel_rfl) (by kernel_rfl) (fun _ _ _ h => False.elim h) (Or.inl ⟨?hw6_6, fun W hW => ?hr6_6⟩) hS ?rest6_6
      case hi6_6 => (simp only [List.getElem?_toArray, List.getElem?_cons_succ, List.getElem?_cons_zero]; rfl)
      case hw6_6 => rfl
      case hr6_6 => (go_simp; try with_reducible rfl)
      try simp only [Act.put, List.setIfInBounds_toArray, List.set_cons_zero, List.set_cons_succ]
      refine wpAnyH_ready (rs := [5]) (by kernel_rfl) (by simp) (AllReadyH.cons (o := ?oi5_7) ?hi5_7 (fun K hK => ?step5_7) AllReadyH.nil)
      case hi5_7 => (simp only [List.getElem?_toArray, List.getElem?_cons_succ, List.getElem?_cons_zero]; rfl)
      go_simp
      go_at_call 36
      refine (clone_own _ (.slice P1 px.length d1) px (Strs.below (Strs.below HP.out (Below.refl _ _).drew) hbA) (by omega)).mono ?_
      rintro e wB ⟨V3, rfl, hoB, hbB⟩
      have hvB : Strs wB V3 px := Rds.of_own hoB
      have htB := TyB.of_own hoB
      obtain ⟨AB, cB, rfl, -⟩ := hvB.open_
      go_wp2_with fail
      refine hK.out _ _ trivial (fun hS => ?_)
      clear hK K
      try simp only [Act.put, List.setIfInBounds_toArray, List.set_cons_zero, List.set_cons_succ]
      refine wpAnyH_ready (rs := [7]) (by kernel_rfl) (by simp) (AllReadyH.cons (o := ?oi7_8) ?hi7_8 (fun K hK => ?step7_8) AllReadyH.nil)
      case hi7_8 => (simp only [List.getElem?_toArray, List.getElem?_cons_succ, List.getElem?_cons_zero]; rfl)
      have hrB := HR.out.below (then_ ((Below.refl _ _).drew.trans hbA) hbB) HR.out.lt
      have z := hrB.cell (i := 2) (v := .slice T1 tx.length c1) rfl
      have zf := hrB.free 2
      go_simp
      refine hK.out _ _ trivial (fun hS => ?_)
      clear hK K
      try simp only [Act.put, List.setIfInBounds_toArray, List.set_cons_zero, List.set_cons_succ]
      refine wpAnyH_take (i := 8) (oi := ?oi8_9) (v := ?v8_9) ?hi8_9 (by kernel_rfl) (by kernel_rfl) (by kernel_rfl) (fun _ _ _ h => False.elim h) (Or.inl ⟨?hw8_9, fun W hW => ?hr8_9⟩) hS ?rest8_9
      case hi8_9 => (simp only [List.getElem?_toArray, List.getElem?_cons_succ, List.getElem?_cons_zero]; rfl)
      case hw8_9 => rfl
      case hr8_9 => (go_simp; try with_reducible rfl)
      try simp only [Act.put, List.setIfInBounds_toArray, List.set_cons_zero, List.set_cons_succ]
      refine wpAnyH_ready (rs := [9]) (by kernel_rfl) (by simp) (AllReadyH.cons (o := ?oi9_10) ?hi9_10 (fun K hK => ?step9_10) AllReadyH.nil)
      case hi9_10 => (simp only [List.getElem?_toArray, List.getElem?_cons_succ, List.getElem?_cons_zero]; rfl)
      have z2 := (hrB.set 2 (.slice AA tx.length cA)).cell (i := 3) (v := .slice P1 px.length d1) rfl
      have zf2 := (hrB.set 2 (.slice AA tx.length cA)).free 3
      go_simp
      refine hK.out _ _ trivial (fun hS => ?_)
      clear hK K
      try simp only [Act.put, List.setIfInBounds_toArray, List.set_cons_zero, List.set_cons_succ]
      refine wpAnyH_done (by kernel_rfl) ?_ _
      exact ⟨_, _, _, _, _, _, _, _, _, _, wB, rfl, rfl, ⟨Strs.below hvA hbB, hvB, htA.below hbB, htB⟩, (then_ ((Below.refl _ _).drew.trans hbA) hbB)⟩
    case sb_4 =>
      have q := q3
      go_simp
      refine hK.out _ _ trivial (fun hS => ?_)
      clear hK K
      try simp only [Act.put, List.setIfInBounds_toArray, List.set_cons_zero, List.set_cons_succ]
      refine wpAnyH_ready (rs := [2]) (by kernel_rfl) (by simp) (AllReadyH.cons (o := ?oi2_11) ?hi2_11 (fun K hK => ?step2_11) AllReadyH.nil)
      case hi2_11 => (simp only [List.getElem?_toArray, List.getElem?_cons_succ, List.getElem?_cons_zero]; rfl)
      go_simp
      go_at_call 36
      refine (clone_own _ (.slice T1 tx.length c1) tx (Strs.below HT.out (Below.refl _ _).drew) (by omega)).mono ?_
      rintro e wA ⟨V2, rfl, hoA, hbA⟩
      have hvA : Strs wA V2 tx := Rds.of_own hoA
      have htA := TyB.of_own hoA
      obtain ⟨AA, cA, rfl, -⟩ := hvA.open_
      go_wp2_with fail
      refine hK.out _ _ trivial (fun hS => ?_)
      clear hK K
      try simp only [Act.put, List.setIfInBounds_toArray, List.set_cons_zero, List.set_cons_succ]
      refine wpAnyH_take (i := 6) (oi := ?oi6_12) (v := ?v6_12) ?hi6_12 (by kernel_rfl) (by kernel_rfl) (by kernel_rfl) (fun _ _ _ h => False.elim h) (Or.inl ⟨?hw6_12, fun W hW => ?hr6_12⟩) hS ?rest6_12
      case hi6_12 => (simp only [List.getElem?_toArray, List.getElem?_cons_succ, List.getElem?_cons_zero]; rfl)
      case hw6_12 => rfl
      case hr6_12 => (go_simp; try with_reducible rfl)
      try simp only [Act.put, List.setIfInBounds_toArray, List.set_cons_zero, List.set_cons_succ]
      refine wpAnyH_ready (rs := [5]) (by kernel_rfl) (by simp) (AllReadyH.cons (o := ?oi5_13) ?hi5_13 (fun K hK => ?step5_13) AllReadyH.nil)
      case hi5_13 => (simp only [List.getElem?_toArray, List.getElem?_cons_succ, List.getElem?_cons_zero]; rfl)
      go_simp
      go_at_call 36
      refine (clone_own _ (.slice P1 px.length d1) px (Strs.below (Strs.below HP.out (Below.refl _ _).drew) hbA) (by omega)).mono ?_
      rintro e wB ⟨V3, rfl, hoB, hbB⟩
      have hvB : Strs wB V3 px := Rds.of_own hoB
      have htB := TyB.of_own hoB
      obtain ⟨AB, cB, rfl, -⟩ := hvB.open_
      go_wp2_with fail
      refine hK.out _ _ trivial (fun hS => ?_)
      clear hK K
      try simp only [Act.put, List.setIfInBounds_toArray, List.set_cons_zero, List.set_cons_succ]
      refine wpAnyH_ready (rs := [7]) (by kernel_rfl) (by simp) (AllReadyH.cons (o := ?oi7_14) ?hi7_14 (fun K hK => ?step7_14) AllReadyH.nil)
      case hi7_14 => (simp only [List.getElem?_toArray, List.getElem?_cons_succ, List.getElem?_cons_zero]; rfl)
      have hrB := HR.out.below (then_ ((Below.refl _ _).drew.trans hbA) hbB) HR.out.lt
      have z := hrB.cell (i := 2) (v := .slice T1 tx.length c1) rfl
      have zf := hrB.free 2
      go_simp
      refine hK.out _ _ trivial (fun hS => ?_)
      clear hK K
      try simp only [Act.put, List.setIfInBounds_toArray, List.set_cons_zero, List.set_cons_succ]
      refine wpAnyH_take (i := 8) (oi := ?oi8_15) (v := ?v8_15) ?hi8_15 (by kernel_rfl) (by kernel_rfl) (by kernel_rfl) (fun _ _ _ h => False.elim h) (Or.inl ⟨?hw8_15, fun W hW => ?hr8_15⟩) hS ?rest8_15
      case hi8_15 => (simp only [List.getElem?_toArray, List.getElem?_cons_succ, List.getElem?_cons_zero]; rfl)
      case hw8_15 => rfl
      case hr8_15 => (go_simp; try with_reducible rfl)
      try simp only [Act.put, List.setIfInBounds_toArray, List.set_cons_zero, List.set_cons_succ]
      refine wpAnyH_ready (rs := [9]) (by kernel_rfl) (by simp) (AllReadyH.cons (o := ?oi9_16) ?hi9_16 (fun K hK => ?step9_16) AllReadyH.nil)
      case hi9_16 => (simp only [List.getElem?_toArray, List.getElem?_cons_succ, List.getElem?_cons_zero]; rfl)
      have z2 := (hrB.set 2 (.slice AA tx.length cA)).cell (i := 3) (v := .slice P1 px.length d1) rfl
      have zf2 := (hrB.set 2 (.slice AA tx.length cA)).free 3
      go_simp
      refine hK.out _ _ trivial (fun hS => ?_)
      clear hK K
      try simp only [Act.put, List.setIfInBounds_toArray, List.set_cons_zero, List.set_cons_succ]
      refine wpAnyH_done (by kernel_rfl) ?_ _
      exact ⟨_, _, _, _, _, _, _, _, _, _, wB, rfl, rfl, ⟨Strs.below hvA hbB, hvB, htA.below hbB, htB⟩, (then_ ((Below.refl _ _).drew.trans hbA) hbB)⟩
  case sb_3 =>
    have q := q3
    go_simp
    refine hK.out _ _ trivial (fun hS => ?_)
    clear hK K
    try simp only [Act.put, List.setIfInBounds_toArray, List.set_cons_zero, List.set_cons_succ]
    refine wpAnyH_ready (rs := [1]) (by kernel_rfl) (by simp) (AllReadyH.cons (o := ?oi1_17) ?hi1_17 (fun K hK => ?step1_17) AllReadyH.nil)
    case hi1_17 => (simp only [List.getElem?_toArray, List.getElem?_cons_succ, List.getElem?_cons_zero]; rfl)
    have q := q2
    go_simp
    refine hK.out _ _ trivial (fun hS => ?_)
    clear hK K
    try simp only [Act.put, List.setIfInBounds_toArray, List.set_cons_zero, List.set_cons_succ]
    refine wpAnyH_ready (rs := [2]) (by kernel_rfl) (by simp) (AllReadyH.cons (o := ?oi2_18) ?hi2_18 (fun K hK => ?step2_18) AllReadyH.nil)
    case hi2_18 => (simp only [List.getElem?_toArray, List.getElem?_cons_succ, List.getElem?_cons_zero]; rfl)
    go_simp
    go_at_call 36
    refine (clone_own _ (.slice T1 tx.length c1) tx (Strs.below HT.out (Below.refl _ _).drew) (by omega)).mono ?_
    rintro e wA ⟨V2, rfl, hoA, hbA⟩
    have hvA : Strs wA V2 tx := Rds.of_own hoA
    have htA := TyB.of_own hoA
    obtain ⟨AA, cA, rfl, -⟩ := hvA.open_
    go_wp2_with fail
    refine hK.out _ _ trivial (fun hS => ?_)
    clear hK K
    try simp only [Act.put, List.setIfInBounds_toArray, List.set_cons_zero, List.set_cons_succ]
    refine wpAnyH_take (i := 6) (oi := ?oi6_19) (v := ?v6_19) ?hi6_19 (by kernel_rfl) (by kernel_rfl) (by kernel_rfl) (fun _ _ _ h => False.elim h) (Or.inl ⟨?hw6_19, fun W hW => ?hr6_19⟩) hS ?rest6_19
    case hi6_19 => (simp only [List.getElem?_toArray, List.getElem?_cons_succ, List.getElem?_cons_zero]; rfl)
    case hw6_19 => rfl
    case hr6_19 => (go_simp; try with_reducible rfl)
    try simp only [Act.put, List.setIfInBounds_toArray, List.set_cons_zero, List.set_cons_succ]
    refine wpAnyH_ready (rs := [5]) (by kernel_rfl) (by simp) (AllReadyH.cons (o := ?oi5_20) ?hi5_20 (fun K hK => ?step5_20) AllReadyH.nil)
    case hi5_20 => (simp only [List.getElem?_toArray, List.getElem?_cons_succ, List.getElem?_cons_zero]; rfl)
    go_simp
    go_at_call 36
    refine (clone_own _ (.slice P1 px.length d1) px (Strs.below (Strs.below HP.out (Below.refl _ _).drew) hbA) (by omega)).mono ?_
    rintro e wB ⟨V3, rfl, hoB, hbB⟩
    have hvB : Strs wB V3 px := Rds.of_own hoB
    have htB := TyB.of_own hoB
    obtain ⟨AB, cB, rfl, -⟩ := hvB.open_
    go_wp2_with fail
    refine hK.out _ _ trivial (fun hS => ?_)
    clear hK K
    try simp only [Act.put, List.setIfInBounds_toArray, List.set_cons_zero, List.set_cons_succ]
    refine wpAnyH_ready (rs := [7]) (by kernel_rfl) (by simp) (AllReadyH.cons (o := ?oi7_21) ?hi7_21 (fun K hK => ?step7_21) AllReadyH.nil)
    case hi7_21 => (simp only [List.getElem?_toArray, List.getElem?_cons_succ, List.getElem?_cons_zero]; rfl)
    have hrB := HR.out.below (then_ ((Below.refl _ _).drew.trans hbA) hbB) HR.out.lt
    have z := hrB.cell (i := 2) (v := .slice T1 tx.length c1) rfl
    have zf := hrB.free 2
    go_simp
    refine hK.out _ _ trivial (fun hS => ?_)
    clear hK K
    try simp only [Act.put, List.setIfInBounds_toArray, List.set_cons_zero, List.set_cons_succ]
    refine wpAnyH_take (i := 8) (oi := ?oi8_22) (v := ?v8_22) ?hi8_22 (by kernel_rfl) (by kernel_rfl) (by kernel_rfl) (fun _ _ _ h => False.elim h) (Or.inl ⟨?hw8_22, fun W hW => ?hr8_22⟩) hS ?rest8_22
    case hi8_22 => (simp only [List.getElem?_toArray, List.getElem?_cons_succ, List.getElem?_cons_zero]; rfl)
    case hw8_22 => rfl
    case hr8_22 => (go_simp; try with_reducible rfl)
    try simp only [Act.put, List.setIfInBounds_toArray, List.set_cons_zero, List.set_cons_succ]
    refine wpAnyH_ready (rs := [9]) (by kernel_rfl) (by simp) (AllReadyH.cons (o := ?oi9_23) ?hi9_23 (fun K hK => ?step9_23) AllReadyH.nil)
    case hi9_23 => (simp only [List.getElem?_toArray, List.getElem?_cons_succ, List.getElem?_cons_zero]; rfl)
    have z2 := (hrB.set 2 (.slice AA tx.length cA)).cell (i := 3) (v := .slice P1 px.length d1) rfl
    have zf2 := (hrB.set 2 (.slice AA tx.length cA)).free 3
    go_simp
    refine hK.out _ _ trivial (fun hS => ?_)
    clear hK K
    try simp only [Act.put, List.setIfInBounds_toArray, List.set_cons_zero, List.set_cons_succ]
    refine wpAnyH_done (by kernel_rfl) ?_ _
    exact ⟨_, _, _, _, _, _, _, _, _, _, wB, rfl, rfl, ⟨Strs.below hvA hbB, hvB, htA.below hbB, htB⟩, (then_ ((Below.refl _ _).drew.trans hbA) hbB)⟩
end Go.Proofs.YtpmbfcogkoiogaaDoor
end
section
namespace Go.Proofs.YtpmbfcogkoiogaaDoor
open Go.RowKit
theorem par_app1 {w wr w2 w3 : World} {ps : List StmP} {V V3 tv pv : Value} {x : StmD} {o1 : Obj} (hO : wr.ownsRow w.heap.size 34 4 V ps.length (ps.flatMap stmCells)) (hps : ∀ p ∈ ps, XAt wr p.2.1 p.2.2 p.1) (hB : Below w.heap.size w wr) (hb2 : Below wr.heap.size wr w2)
    (hx : XAt w2 tv pv x) {L : List Value} (hL : L = ps.flatMap stmCells) (ho3 : w3.ownsRow w.heap.size 34 4 V3 (ps.length + 1) (L ++ [.int .i64 x.kind, .string ⟨x.label.toArray⟩, tv, pv])) (hg3 : (w2.alloc o1).grownBy w3 V.ownBlock) : ParApp w ps x V3 w3 := by
  subst hL
  have h4 := ca_own_alloc (own_below hO hb2) o1
  have hb4 : Below wr.heap.size wr (w2.alloc o1) := new_ hb2 o1
  obtain ⟨ps', e', ho', hx'⟩ := StmsO.snoc (fun p hp => (hps p hp).below hb4) h4 (hx.below (new_ (Below.refl _ _) o1)) ho3 hg3
  have hl' : ps'.length = ps.length + 1 := by have := congrArg List.length e'; simpa using this.symm
  obtain ⟨A', c', rfl, _⟩ := own_form ho'
  have hz := (then_ hB hb4).size
  exact ⟨ps', A', c', rfl, hl', e', ho', hx', Below.grown (then_ hB hb4) hg3 hz fun k hk => (h4.lt _ hk).1⟩
/-- what is asked of the sizes of a document -/
def DocSz (d : List PartD) : Prop := d.length ≤ 2000000 ∧ ∀ x ∈ d, x.1.text.length ≤ 1000000 ∧ x.1.proof.length ≤ 1000000
set_option maxRecDepth 100000 in
set_option maxHeartbeats 4000000 in
theorem statements_any (w : World) (v : Value) (tl : List UInt8) (d : List PartD) (h : Parts w v d) (hs : DocSz d) :
    Calls Tryd.prog 23 #[.agg #[v, .string ⟨tl.toArray⟩]] w fun e w' => ∃ v', e = .returned v' ∧ Stms w' v' (d.map (·.1)) ∧ Below w.heap.size w w' := by
  have H := Lib.hid h
  obtain ⟨A1, c1, rfl, hc1, hm1, -⟩ := h.open_
  have HS := Lib.hid hs.2
  have hd := hs.1
  unfold maxLen at hm1
  clear h hs
  go_enter Tryd.func23, Tryd.ntmps23
  go_wp2_with fail
  go_loopw [3, 10] (fun ov kv wr => ∃ (k c : Nat) (ps : List StmP) (A : Option Addr), k ≤ d.length ∧ ps.length = k ∧ kv = .int .i64 k ∧ ov = .slice A k c ∧ ps.map (·.1) = (d.take k).map (·.1) ∧ wr.ownsRow w.heap.size 34 4 (.slice A k c) k (ps.flatMap stmCells) ∧ (∀ p ∈ ps, XAt wr p.2.1 p.2.2 p.1) ∧ Below w.heap.size w wr) (fun _ kv _ => d.length - (intOf kv).toNat)
  case atStart => exact ⟨0, 0, [], none, Nat.zero_le _, rfl, rfl, rfl, rfl, own_nil _ _ _ _, fun p h => (nomatch h), new_ (Below.refl _ _) _⟩
  case round =>
    obtain ⟨k, c, ps, A, hk, hpl, rfl, rfl, hps, hO, hX, hB⟩ := hrel
    by_cases hlt : k < d.length
    · obtain ⟨y, hy⟩ : ∃ y, d[k]? = some y := ⟨_, List.getElem?_eq_getElem hlt⟩
      obtain ⟨A', c', hv, _, _, hxx⟩ := (H.out.below hB).open_
      obtain ⟨b, o, tv, pv, gv, hA, g0, g1, g2, g3, g4, hT, hP, hG⟩ := hxx k y hy
      obtain ⟨rfl, _, rfl⟩ := (by simpa using hv : A1 = A' ∧ True ∧ c1 = c')
      subst hA
      obtain ⟨n1, n2⟩ := HS.out y (List.mem_of_getElem? hy)
      obtain ⟨T1, d1, rfl, -⟩ := hT.open_
      obtain ⟨P1, e1, rfl, -⟩ := hP.open_
      obtain ⟨G1, f1, rfl, -⟩ := hG.open_
      have HT := Lib.hid hT
      have HP := Lib.hid hP
      have HPS := Lib.hid hps
      have HO := Lib.hid hO
      have HX := Lib.hid hX
      have HB := Lib.hid hB
      have HY := Lib.hid hy
      have hzB := hB.size
      clear hxx hv hT hP hG hps hO hX hB hy
      go_wp2_with fail
      refine stm_clones (k := y.1.kind) (l := y.1.label) (tx := y.1.text) (px := y.1.proof) (tv := .slice T1 y.1.text.length d1) (pv := .slice P1 y.1.proof.length e1) (Row.new' _ _ _ (by simp)) (Strs.below HT.out (new_ (new_ (Below.refl _ _) _) _)) (Strs.below HP.out (new_ (new_ (Below.refl _ _) _) _)) n1 n2 ?_
      intro y16 y17 y18 y19 y20 y21 y22 y23 V2 V3 W' hx hb
      obtain ⟨⟨T2, d2, hv2⟩, P2, e2, hv3⟩ := hx.form
      dsimp only at hv2 hv3
      subst hv2 hv3
      have hrX := (Row.new' (wr.alloc (.cells #[.int .i64 y.1.kind, .string ⟨y.1.label.toArray⟩, .slice T1 y.1.text.length d1, .slice P1 y.1.proof.length e1, .slice G1 y.2.length f1] 62)) 34 #[.int .i64 y.1.kind, .string ⟨y.1.label.toArray⟩, .slice T1 y.1.text.length d1, .slice P1 y.1.proof.length e1] (g := wr.heap.size + 1) (by simp)).below hb (by simp)
      have hx6 := (hx.store (i := 2) hrX (.slice T2 y.1.text.length d2)).store (i := 3) (hrX.set 2 _) (.slice P2 y.1.proof.length e2)
      have hr6 := (hrX.set 2 (.slice T2 y.1.text.length d2)).set 3 (.slice P2 y.1.proof.length e2)
      have hb6 : Below wr.heap.size wr ((W'.setCell ⟨wr.heap.size + 1, 2, none⟩ (.slice T2 y.1.text.length d2)).setCell ⟨wr.heap.size + 1, 3, none⟩ (.slice P2 y.1.proof.length e2)) := ((then_ (new_ (new_ (Below.refl _ _) _) _) hb).setCell (p := ⟨wr.heap.size + 1, 2, none⟩) (by dsimp only; omega) _).setCell (p := ⟨wr.heap.size + 1, 3, none⟩) (by dsimp only; omega) _
      obtain ⟨W6, hW6⟩ : ∃ W6, (W'.setCell ⟨wr.heap.size + 1, 2, none⟩ (.slice T2 y.1.text.length d2)).setCell ⟨wr.heap.size + 1, 3, none⟩ (.slice P2 y.1.proof.length e2) = W6 := ⟨_, rfl⟩
      rw [hW6] at hx6 hr6 hb6 ⊢
      have q0 := hr6.cell (i := 0) (v := .int .i64 y.1.kind) rfl
      have q1 := hr6.cell (i := 1) (v := .string ⟨y.1.label.toArray⟩) rfl
      have q2 := hr6.cell (i := 2) (v := .slice T2 y.1.text.length d2) rfl
      have q3 := hr6.cell (i := 3) (v := .slice P2 y.1.proof.length e2) rfl
      have HX6 := Lib.hid hx6
      have HB6 := Lib.hid hb6
      have hz6 := hb6.size
      obtain ⟨i0, ki, kj0, kj1, kj2⟩ := info_parts infoStm
      obtain ⟨L, hL⟩ : ∃ L, L = ps.flatMap stmCells := ⟨_, rfl⟩
      rw [← hL] at HO
      have HL := Lib.hid hL
      clear hx hb hrX hx6 hr6 hb6 hW6 hL
      go_wp2_with (at_builtin; (refine wpList_append_own _ rfl (.tmp 24) (.tmp 26) 23 rfl w.heap.size 34 i0 (.agg #[.int .i64 0, .string ⟨#[]⟩, .slice none 0 0, .slice none 0 0]) 4 72 Tryd.underlying23 ki kj0 kj1 kj2 rfl (by decide) (.slice A k c) k L rfl (ca_own_alloc (own_below HO.out HB6.out) _) ⟨W6.heap.size, 0, none⟩ 1 1 [.int .i64 y.1.kind, .string ⟨y.1.label.toArray⟩, .slice T2 y.1.text.length d2, .slice P2 y.1.proof.length e2] rfl rfl (cells_of' _ _ _ _ rfl (by simp)) (by simp [Value.oneCell']) (by unfold maxLen; omega) (by omega) (by simp; omega) ?_; intro v3 w7 ho7 hg7 _; have HQ := Lib.hid (par_app1 (by rw [hpl]; exact HL.out ▸ HO.out) HX.out HB.out HB6.out HX6.out HL.out (by rw [hpl]; exact ho7) hg7); clear ho7 hg7; obtain ⟨ps', A', c', rfl, hl', -⟩ := HQ.out))
      obtain ⟨ps2, A2, c2, he2, hl2, e', ho', hx', hb3⟩ := HQ.out
      obtain ⟨rfl, hl3, rfl⟩ := by simpa using he2
      go_roundw
      case rel => exact ⟨k + 1, c', ps2, A', by omega, by omega, by go_num, rfl, by rw [← e', HPS.out, take_snoc HY.out, List.map_append]; rfl, by rw [show k + 1 = ps2.length by omega]; exact ho', hx', hb3⟩
      case measure => simp [intOf]; omega
    · obtain rfl : k = d.length := by omega
      go_wp2
      go_ret
      rw [List.take_length] at hps
      exact ⟨_, rfl, StmsO.stms ⟨ps, hps.symm, by rw [hpl]; exact hO, hX⟩, hB⟩
theorem part_cells {w : World} {A : Option Addr} {n c : Nat} {ps : List PartP} {k : Nat} {p : PartP} (h : Rds w 5 (.slice A n c) ps.length (ps.flatMap partCells)) (hp : ps[k]? = some p) :
    ∃ b o, A = some ⟨b, o, none⟩ ∧ w.cell? ⟨b, o + k * 5, none⟩ = some (.int .i64 p.1.kind) ∧ w.cell? ⟨b, o + k * 5 + 1, none⟩ = some (.string ⟨p.1.label.toArray⟩) ∧ w.cell? ⟨b, o + k * 5 + 2, none⟩ = some p.2.1 ∧ w.cell? ⟨b, o + k * 5 + 3, none⟩ = some p.2.2.1 ∧ w.cell? ⟨b, o + k * 5 + 4, none⟩ = some p.2.2.2.1 := by
  obtain ⟨A', c', hv, _, _, _, hr⟩ := h
  have hlt := (List.getElem?_eq_some_iff.1 hp).1
  obtain ⟨b, o, ha, hz⟩ := hr (by omega)
  cases hv
  have hf := fun i hi => flatR 5 partCells (fun _ => rfl) ps k i p hp hi
  exact ⟨b, o, ha, hz (k * 5) _ (hf 0 (by omega)), hz (k * 5 + 1) _ (hf 1 (by omega)), hz (k * 5 + 2) _ (hf 2 (by omega)), hz (k * 5 + 3) _ (hf 3 (by omega)), hz (k * 5 + 4) _ (hf 4 (by omega))⟩
/-- behind an append to a row of the call's own, beside a box of another type -/
theorem rows_app {w wr w7 : World} {A : Option Addr} {k c size g : Nat} {L M : List Value} {v3 : Value} {E T : TypeId} {cs : Array Value} {o : Obj} (hT : T ≠ E) (hO : wr.ownsRow w.heap.size E size (.slice A k c) k L) (hR : Row wr g T cs) (hB : Below w.heap.size w wr)
    (ho : w7.ownsRow w.heap.size E size v3 (k + 1) (L ++ M)) (hg : (wr.alloc o).grownBy w7 (Value.slice A k c).ownBlock) : (∃ A' c', v3 = .slice A' (k + 1) c') ∧ w7.ownsRow w.heap.size E size v3 (k + 1) (L ++ M) ∧ Row w7 g T cs ∧ Below w.heap.size w w7 := by
  obtain ⟨A', c', rfl, _⟩ := own_form ho
  have h2 := ca_own_alloc hO o
  refine ⟨⟨A', c', rfl⟩, ho, (hR.alloc o).grown hg fun e => ?_, (new_ hB o).grown hg (new_ hB o).size fun j e => own_block h2 _ e⟩
  obtain ⟨_, c', hc⟩ := own_cells h2 g e.symm
  have hr := hR.alloc o
  rw [show (wr.alloc o).heap[g]? = _ from hr] at hc
  cases hc
  exact hT rfl
set_option maxRecDepth 100000 in
set_option maxHeartbeats 4000000 in
theorem ref_statements (w : World) (v : Value) (tl : List UInt8) (d : List PartD) (h : Parts w v d) (hd : d.length ≤ 2000000) :
    Calls Tryd.prog 24 #[.agg #[v, .string ⟨tl.toArray⟩]] w fun e w' => ∃ v', e = .returned v' ∧ Stms w' v' (d.map (·.1)) ∧ Below w.heap.size w w' := by
  obtain ⟨ps, rfl, hr, hx⟩ := h
  obtain ⟨A1, c1, hv, hc1, hm1, hl1, hr1⟩ := id hr
  subst hv
  have HR := Lib.hid hr
  have HX := Lib.hid hx
  unfold maxLen at hm1
  rw [List.length_map] at hd
  clear hl1 hr1 hr hx
  go_enter Tryd.func24, Tryd.ntmps24
  go_wp2_with fail
  go_loopw [3, 4] (fun ov kv wr => ∃ (k c : Nat) (A : Option Addr), k ≤ ps.length ∧ kv = .int .i64 k ∧ ov = .slice A k c ∧ wr.ownsRow w.heap.size 34 4 (.slice A k c) k ((ps.take k).flatMap fun p => stmCells (p.1, p.2.1, p.2.2.1)) ∧ Row wr w.heap.size 45 #[.slice A1 ps.length c1, .string ⟨tl.toArray⟩] ∧ Below w.heap.size w wr) (fun _ kv _ => ps.length - (intOf kv).toNat)
  case atStart =>
    have h1 := World.ownsRow_made (base := w.heap.size) (e := 34) (size := 4) (w.alloc (.cells #[.slice A1 ps.length c1, .string ⟨tl.toArray⟩] 45)) #[] 0 (by simp) (by decide) (by simp)
    exact ⟨0, 0, _, Nat.zero_le _, rfl, rfl, by simpa using h1, (Row.new _ _ _).alloc _, new_ (new_ (Below.refl _ _) _) _⟩
  case round =>
    obtain ⟨k, c, A, hk, rfl, rfl, hO, hB1, hB⟩ := hrel
    have q0 := hB1.cell (i := 0) (v := .slice A1 ps.length c1) rfl
    by_cases hlt : k < ps.length
    · obtain ⟨y, hy⟩ : ∃ y, ps[k]? = some y := ⟨_, List.getElem?_eq_getElem hlt⟩
      obtain ⟨b, o, rfl, g0, g1, g2, g3, -⟩ := part_cells (HR.out.below hB) hy
      obtain ⟨⟨T1, d1, ht⟩, ⟨P1, e1, hp⟩, -⟩ := (HX.out y (List.mem_of_getElem? hy)).form
      rw [ht] at g2
      rw [hp] at g3
      obtain ⟨L, hL⟩ : ∃ L, L = (ps.take k).flatMap fun p => stmCells (p.1, p.2.1, p.2.2.1) := ⟨_, rfl⟩
      rw [← hL] at hO
      have HT : Hid ((ps.take (k + 1)).flatMap (fun p => stmCells (p.1, p.2.1, p.2.2.1)) = L ++ [.int .i64 y.1.kind, .string ⟨y.1.label.toArray⟩, .slice T1 y.1.text.length d1, .slice P1 y.1.proof.length e1]) := Lib.hid (by rw [hL, take_snoc hy, List.flatMap_append]; simp [stmCells, ht, hp])
      have HO := Lib.hid hO
      have HB := Lib.hid hB
      have HB1 := Lib.hid hB1
      have hzB := hB.size
      obtain ⟨i0, ki, kj0, kj1, kj2⟩ := info_parts infoStm
      clear hL hO hB hB1 hy ht hp
      go_wp2_with (at_builtin; (refine wpList_append_own _ rfl (.tmp 13) (.tmp 20) 23 rfl w.heap.size 34 i0 (.agg #[.int .i64 0, .string ⟨#[]⟩, .slice none 0 0, .slice none 0 0]) 4 72 Tryd.underlying23 ki kj0 kj1 kj2 rfl (by decide) (.slice A k c) k L rfl (ca_own_alloc HO.out _) ⟨wr.heap.size, 0, none⟩ 1 1 [.int .i64 y.1.kind, .string ⟨y.1.label.toArray⟩, .slice T1 y.1.text.length d1, .slice P1 y.1.proof.length e1] rfl rfl (cells_of' _ _ _ _ rfl (by simp)) (by simp [Value.oneCell']) (by unfold maxLen; omega) (by omega) (by simp; omega) ?_; intro v3 w7 ho7 hg7 _; have HQ := Lib.hid (rows_app (by decide) HO.out HB1.out HB.out ho7 hg7); clear ho7 hg7; obtain ⟨⟨A', c', rfl⟩, -⟩ := HQ.out))
      go_roundw
      case rel => exact ⟨k + 1, c', A', by omega, by go_num, rfl, by rw [HT.out]; exact HQ.out.2.1, HQ.out.2.2.1, HQ.out.2.2.2⟩
      case measure => simp [intOf]; omega
    · obtain rfl : k = ps.length := by omega
      go_wp2
      go_ret
      rw [List.take_length] at hO
      refine ⟨_, rfl, ⟨ps.map fun p => (p.1, p.2.1, p.2.2.1), ?_, ?_, fun p hp => ?_⟩, hB⟩
      · rw [List.map_map, List.map_map]; rfl
      · rw [List.length_map, List.flatMap_map]; exact Rds.of_own hO
      · obtain ⟨q, hq, rfl⟩ := List.mem_map.1 hp
        exact ⟨Strs.below (HX.out q hq).t hB, Strs.below (HX.out q hq).p hB⟩
theorem doc_app {w wr w7 : World} {A : Option Addr} {k c : Nat} {L M : List Value} {v3 : Value} {tl : List UInt8} {o1 o2 : Obj} (hO : wr.ownsRow w.heap.size 90 5 (.slice A k c) k L) (hR : Row wr (w.heap.size + 1 + 1) 45 #[.slice A k c, .string ⟨tl.toArray⟩])
    (hR2 : Row wr (w.heap.size + 1) 45 #[.slice none 0 0, .string ⟨#[]⟩]) (hB : Below w.heap.size w wr) (ho : w7.ownsRow w.heap.size 90 5 v3 (k + 1) (L ++ M)) (hg : ((wr.alloc o1).alloc o2).grownBy w7 (Value.slice A k c).ownBlock) :
    (∃ A' c', v3 = .slice A' (k + 1) c') ∧ w7.cell? ⟨w.heap.size + 1 + 1, 0, none⟩ = some (.slice A k c) ∧ w7.frozen? ⟨w.heap.size + 1 + 1, 0, none⟩ = false ∧ Row (w7.setCell ⟨w.heap.size + 1 + 1, 0, none⟩ v3) (w.heap.size + 1 + 1) 45 #[v3, .string ⟨tl.toArray⟩] ∧
    (w7.setCell ⟨w.heap.size + 1 + 1, 0, none⟩ v3).ownsRow w.heap.size 90 5 v3 (k + 1) (L ++ M) ∧ Row (w7.setCell ⟨w.heap.size + 1 + 1, 0, none⟩ v3) (w.heap.size + 1) 45 #[.slice none 0 0, .string ⟨#[]⟩] ∧ Below w.heap.size w (w7.setCell ⟨w.heap.size + 1 + 1, 0, none⟩ v3) := by
  obtain ⟨A', c', rfl, _⟩ := own_form ho
  have h2 := ca_own_alloc (ca_own_alloc hO o1) o2
  have hb2 := new_ (new_ hB o1) o2
  have hrow : ∀ g (cs : Array Value), Row wr g 45 cs → Row w7 g 45 cs := fun g cs hr => ((hr.alloc o1).alloc o2).grown hg fun e => by
    obtain ⟨_, c', hc⟩ := own_cells h2 g e.symm
    rw [show ((wr.alloc o1).alloc o2).heap[g]? = _ from (hr.alloc o1).alloc o2] at hc
    cases hc
  have hr7 := hrow _ _ hR
  refine ⟨⟨A', c', rfl⟩, hr7.cell (i := 0) rfl, hr7.free 0, hr7.set 0 _, own_store ho hr7 (by decide) _ _, (hrow _ _ hR2).other (by dsimp only; omega) _, ?_⟩
  exact (hb2.grown hg hb2.size fun j e => own_block h2 _ e).setCell (p := ⟨w.heap.size + 1 + 1, 0, none⟩) (by dsimp only; omega) _
set_option maxRecDepth 100000 in
set_option maxHeartbeats 4000000 in
theorem document_any (w : World) (v : Value) (tl : List UInt8) (d : List PartD) (h : Parts w v d) (hd : d.length ≤ 2000000) :
    Calls Tryd.prog 22 #[.agg #[v, .string ⟨tl.toArray⟩]] w fun e w' => ∃ v', e = .returned (.agg #[v', .string ⟨tl.toArray⟩]) ∧ Parts w' v' d ∧ Below w.heap.size w w' := by
  obtain ⟨ps, rfl, hr, hx⟩ := h
  obtain ⟨A1, c1, hv, hc1, hm1, hl1, hr1⟩ := id hr
  subst hv
  have HR := Lib.hid hr
  have HX := Lib.hid hx
  unfold maxLen at hm1
  rw [List.length_map] at hd
  clear hl1 hr1 hr hx
  go_enter Tryd.func22, Tryd.ntmps22
  go_wp2_with fail
  go_loopw [12] (fun kv wr => ∃ (k c : Nat) (A : Option Addr), k ≤ ps.length ∧ kv = .int .i64 k ∧ Row wr (w.heap.size + 1 + 1) 45 #[.slice A k c, .string ⟨tl.toArray⟩] ∧ wr.ownsRow w.heap.size 90 5 (.slice A k c) k ((ps.take k).flatMap partCells) ∧ Row wr (w.heap.size + 1) 45 #[.slice none 0 0, .string ⟨#[]⟩] ∧ Below w.heap.size w wr) (fun kv _ => ps.length - (intOf kv).toNat)
  case atStart => exact ⟨0, 0, none, Nat.zero_le _, rfl, Row.new' _ _ _ (by simp), own_nil _ _ _ _, (Row.new' _ _ _ (by simp)).alloc _, new_ (new_ (new_ (Below.refl _ _) _) _) _⟩
  case round =>
    obtain ⟨k, c, A, hk, rfl, hr3, hO, hr2, hB⟩ := hrel
    by_cases hlt : k < ps.length
    · obtain ⟨y, hy⟩ : ∃ y, ps[k]? = some y := ⟨_, List.getElem?_eq_getElem hlt⟩
      obtain ⟨b, o, rfl, g0, g1, g2, g3, g4⟩ := part_cells (HR.out.below hB) hy
      obtain ⟨⟨T1, d1, ht⟩, ⟨P1, e1, hp⟩, G1, f1, hg⟩ := (HX.out y (List.mem_of_getElem? hy)).form
      rw [ht] at g2
      rw [hp] at g3
      rw [hg] at g4
      have q0 := (hr3.alloc (.cells #[.int .i64 y.1.kind, .string ⟨y.1.label.toArray⟩, .slice T1 y.1.text.length d1, .slice P1 y.1.proof.length e1, .slice G1 y.2.2.2.2.length f1] 62)).cell (i := 0) (v := .slice A k c) rfl
      obtain ⟨L, hL⟩ : ∃ L, L = (ps.take k).flatMap partCells := ⟨_, rfl⟩
      rw [← hL] at hO
      have HT : Hid ((ps.take (k + 1)).flatMap partCells = L ++ [.int .i64 y.1.kind, .string ⟨y.1.label.toArray⟩, .slice T1 y.1.text.length d1, .slice P1 y.1.proof.length e1, .slice G1 y.2.2.2.2.length f1]) := Lib.hid (by rw [hL, take_snoc hy, List.flatMap_append]; simp [partCells, ht, hp, hg])
      have HO := Lib.hid hO
      have HB := Lib.hid hB
      have HR3 := Lib.hid hr3
      have HR2 := Lib.hid hr2
      have hzB := hB.size
      obtain ⟨i0, ki, kj0, kj1, kj2⟩ := info_parts infoRPart
      clear hL hO hB hr3 hr2 hy ht hp hg
      go_wp2_with (at_builtin; (refine wpList_append_own _ rfl (.tmp 17) (.tmp 19) 43 rfl w.heap.size 90 i0 (.agg #[.int .i64 0, .string ⟨#[]⟩, .slice none 0 0, .slice none 0 0, .slice none 0 0]) 5 96 Tryd.underlying43 ki kj0 kj1 kj2 rfl (by decide) (.slice A k c) k L rfl (ca_own_alloc (ca_own_alloc HO.out _) _) ⟨wr.heap.size + 1, 0, none⟩ 1 1 [.int .i64 y.1.kind, .string ⟨y.1.label.toArray⟩, .slice T1 y.1.text.length d1, .slice P1 y.1.proof.length e1, .slice G1 y.2.2.2.2.length f1] rfl rfl (cells_of' _ _ _ _ rfl (by simp)) (by simp [Value.oneCell']) (by unfold maxLen; omega) (by omega) (by simp; omega) ?_; intro v3 w7 ho7 hg7 _; have HQ := Lib.hid (doc_app HO.out HR3.out HR2.out HB.out ho7 hg7); clear ho7 hg7; obtain ⟨⟨A', c', rfl⟩, q7, q8, -⟩ := HQ.out))
      go_roundw
      case rel => exact ⟨k + 1, c', A', by omega, by go_num, HQ.out.2.2.2.1, by rw [HT.out]; exact HQ.out.2.2.2.2.1, HQ.out.2.2.2.2.2⟩
      case measure => simp [intOf]; omega
    · obtain rfl : k = ps.length := by omega
      have q0 := hr3.cell (i := 0) (v := .slice A ps.length c) rfl
      have q1 := hr3.cell (i := 1) (v := .string ⟨tl.toArray⟩) rfl
      have c0 := hr2.cell (i := 0) (v := .slice none 0 0) rfl
      have c1 := hr2.cell (i := 1) (v := .string ⟨#[]⟩) rfl
      have f0 := hr2.free 0
      have f1 := hr2.free 1
      have d0 := ((hr2.set 0 (.slice A ps.length c)).set 1 (.string ⟨tl.toArray⟩)).cell (i := 0) (v := .slice A ps.length c) rfl
      have d1 := ((hr2.set 0 (.slice A ps.length c)).set 1 (.string ⟨tl.toArray⟩)).cell (i := 1) (v := .string ⟨tl.toArray⟩) rfl
      rw [List.take_length] at hO
      have HO := Lib.hid (own_store (own_store hO hr2 (by decide) 0 (.slice A ps.length c)) (hr2.set 0 _) (by decide) 1 (.string ⟨tl.toArray⟩))
      have HB := Lib.hid ((hB.setCell (p := ⟨w.heap.size + 1, 0, none⟩) (by dsimp only; omega) (.slice A ps.length c)).setCell (p := ⟨w.heap.size + 1, 1, none⟩) (by dsimp only; omega) (.string ⟨tl.toArray⟩))
      clear hO hB hr3 hr2
      go_wp2
      refine bodyPost_ret (v := .agg #[.slice A ps.length c, .string ⟨tl.toArray⟩]) (by simp [results, Tryd.results22, go_sem, d0, d1]) rfl ?_
      exact ⟨_, rfl, ⟨ps, rfl, Rds.of_own HO.out, fun p hp => (HX.out p hp).below HB.out⟩, HB.out⟩
end Go.Proofs.YtpmbfcogkoiogaaDoor
end
