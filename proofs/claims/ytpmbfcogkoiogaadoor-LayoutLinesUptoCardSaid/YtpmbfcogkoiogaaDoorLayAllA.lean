/- The program's statements: formed. (Printed by gen_layform.py.) The program's statements: Words. -/
import Derived.Test.YtpmbfcogkoiogaaDoorTailA
import Derived.Deep.RegionHeld3
import Derived.Deep.DrawnRows
import Derived.RegionTactic
import Derived.BigRegion
import Derived.Test.YtpmbfcogkoiogaaDoorLayAll1
import Derived.Test.YtpmbfcogkoiogaaDoorLayWordsA
section
namespace Go.Proofs.YtpmbfcogkoiogaaDoor
open Go.RowKit
attribute [local go_sem ↓] Go.wp_at_zero Go.wp_at_succ
theorem any_not {l : List (List UInt8)} {p : List UInt8 → Bool} : (l.any fun s => !p s) = !(l.all p) := by rw [List.not_all_eq_any_not]
set_option maxRecDepth 100000 in
set_option maxHeartbeats 16000000 in
theorem formed_any (w : World) (x : StmD) (tv pv : Value) (hT : Strs w tv x.text) (hP : Strs w pv x.proof) (hF : FormsAt w) :
    Calls Tryd.prog 41 #[stmV x.kind x.label tv pv] w fun e w' => e = .returned (.bool (formedS x)) ∧ Below w.heap.size w w' := by
  obtain ⟨kz, l, tx, px⟩ := x
  dsimp only at hT hP ⊢
  obtain ⟨T1, d1, rfl, hd1, hm1, -⟩ := hT.open_
  obtain ⟨P1, d2, rfl, hd2, hm2, -⟩ := hP.open_
  unfold maxLen at hm1 hm2
  have HR : Hid (formedS ⟨kz, l, tx, px⟩ = (okHead ⟨kz, l, tx, px⟩ && okLen ⟨kz, l, tx, px⟩ && tx.all symB && px.all prfS)) := Lib.hid (formedS_eq _)
  obtain ⟨res, hres⟩ : ∃ r, formedS ⟨kz, l, tx, px⟩ = r := ⟨_, rfl⟩
  rw [hres] at HR ⊢
  clear hres
  have HT := Lib.hid hT
  have HP := Lib.hid hP
  by_cases hk : 1 ≤ kz ∧ kz ≤ 9
  case neg =>
    have HFF : Hid (res = false) := Lib.hid (by
      rw [HR.out, show okHead ⟨kz, l, tx, px⟩ = false by unfold okHead; rw [decide_eq_false hk]; rfl]
      rfl)
    clear hT hP hF
    unfold stmV
    by_cases h1 : kz < 1
    · have e1 : decide (kz < 1) = true := decide_eq_true h1
      clear h1 hk
      go_enter Tryd.func41, Tryd.ntmps41
      go_wp2
      go_ret
      exact ⟨ret_bool HFF.out.symm, new_ (Below.refl _ _) _⟩
    · have e1 : decide (kz < 1) = false := decide_eq_false h1
      have e2 : decide (9 < kz) = true := decide_eq_true (by omega)
      clear h1 hk
      go_enter Tryd.func41, Tryd.ntmps41
      go_wp2
      go_ret
      exact ⟨ret_bool HFF.out.symm, new_ (Below.refl _ _) _⟩
  obtain ⟨k, rfl⟩ : ∃ k : Nat, kz = k := ⟨kz.toNat, by omega⟩
  have hk1 : 1 ≤ k := by omega
  have hk9 : k ≤ 9 := by omega
  have e1 : decide ((k : Int) < 1) = false := decide_eq_false (by omega)
  have e2 : decide ((9 : Int) < (k : Int)) = false := decide_eq_false (by omega)
  have i0 : (0 : Int) ≤ (k : Int) := by omega
  have i1 : (k : Int) < 10 := by omega
  obtain ⟨f0, f1, f2, f3⟩ := hF k hk9
  have lF := hF.lt
  rw [formL_pos hk1] at f2
  rw [formM_pos hk1] at f3
  obtain ⟨kw, hkw⟩ : ∃ s, kwN k = s := ⟨_, rfl⟩
  obtain ⟨lb, hlb⟩ : ∃ b, labS k = b := ⟨_, rfl⟩
  rw [hkw] at f0
  rw [hlb] at f1
  obtain ⟨bl, hbl⟩ : ∃ b, labB l = b := ⟨_, rfl⟩
  obtain ⟨be, hbe⟩ : ∃ b, (l == []) = b := ⟨_, rfl⟩
  have hbe2 : l.isEmpty = be := by rw [← hbe]; cases l <;> rfl
  have hbe3 : (!l.isEmpty) = !be := by rw [hbe2]
  obtain ⟨c1, hc1⟩ : ∃ b, decide (tx.length < leastS k) = b := ⟨_, rfl⟩
  obtain ⟨c2, hc2⟩ : ∃ b, decide (mostS k < tx.length) = b := ⟨_, rfl⟩
  obtain ⟨c7, hc7⟩ : ∃ b, ((k : Int) == 7) = b := ⟨_, rfl⟩
  obtain ⟨e0, he0⟩ : ∃ b, ((px.length : Int) == 0) = b := ⟨_, rfl⟩
  obtain ⟨n1, hn1⟩ : ∃ b, (tx.any fun s => !symB s) = b := ⟨_, rfl⟩
  obtain ⟨n2, hn2⟩ : ∃ b, (px.any fun s => !prfS s) = b := ⟨_, rfl⟩
  have hs1 : tx.all symB = !n1 := by rw [← hn1, any_not, Bool.not_not]
  have hp1 : px.all prfS = !n2 := by rw [← hn2, any_not, Bool.not_not]
  have HRES : Hid (res = ((if lb then bl else be) && (!c1 && !c2 && (c7 || e0)) && !n1 && !n2)) := Lib.hid (by
    rw [HR.out, hs1, hp1]
    have h1 : okHead ⟨k, l, tx, px⟩ = if lb then bl else be := by
      unfold okHead; dsimp only; rw [decide_eq_true (by omega), hlb, hbl, hbe]; rfl
    have h2 : okLen ⟨k, l, tx, px⟩ = (!c1 && !c2 && (c7 || e0)) := by
      unfold okLen
      dsimp only
      rw [hc7, ← hc1, ← hc2, ← he0, Bool.decide_and]
      congr 1
      · congr 1
        · rw [Bool.eq_iff_iff]; simp
        · rw [Bool.eq_iff_iff]; simp
      · congr 1
        cases px <;> simp
        omega
    rw [h1, h2])
  have HBL := Lib.hid hbl
  have HA1 := Lib.hid hn1
  have HA2 := Lib.hid hn2
  clear hn1 hn2 hs1 hp1 hbl hlb hkw HR hk hbe
  obtain ⟨W0, hW0⟩ : ∃ W0, W0 = (w.alloc (.cells #[.int .i64 k, .string ⟨l.toArray⟩, .slice T1 tx.length d1, .slice P1 px.length d2] 34)).alloc (.cells #[.string ⟨kw.toArray⟩, .bool lb, .int .i64 (leastS k : Nat), .int .i64 (mostS k : Nat)] 126) := ⟨_, rfl⟩
  have hb0 : Below w.heap.size w W0 := by rw [hW0]; exact new_ (new_ (Below.refl _ _) _) _
  have hX0 : Row W0 w.heap.size 34 #[.int .i64 k, .string ⟨l.toArray⟩, .slice T1 tx.length d1, .slice P1 px.length d2] := by rw [hW0]; exact (Row.new _ _ _).alloc _
  have hY0 : Row W0 (w.heap.size + 1) 126 #[.string ⟨kw.toArray⟩, .bool lb, .int .i64 (leastS k : Nat), .int .i64 (mostS k : Nat)] := by rw [hW0]; exact Row.new' _ _ _ (by simp)
  have HX := Lib.hid hX0
  have HY := Lib.hid hY0
  have HB := Lib.hid hb0
  have HW0 := Lib.hid hW0
  clear hT hP hX0 hY0 hW0 hb0 hF
  have qX0 := HX.out.cell (i := 0) (v := .int .i64 k) rfl
  have qX1 := HX.out.cell (i := 1) (v := .string ⟨l.toArray⟩) rfl
  have qX2 := HX.out.cell (i := 2) (v := .slice T1 tx.length d1) rfl
  have qX3 := HX.out.cell (i := 3) (v := .slice P1 px.length d2) rfl
  have lX := HX.out.lt
  have qY1 := HY.out.cell (i := 1) (v := .bool lb) rfl
  have qY2 := HY.out.cell (i := 2) (v := .int .i64 (leastS k : Nat)) rfl
  have qY3 := HY.out.cell (i := 3) (v := .int .i64 (mostS k : Nat)) rfl
  have lY := HY.out.lt
  unfold stmV
  cases lb with
  | true =>
    cases bl with
    | false =>
      have HFF : Hid (res = false) := Lib.hid (by rw [HRES.out]; simp)
      go_enter Tryd.func41, Tryd.ntmps41
      go_upto_region 4 with fail
      rw [← HW0.out]
      go_wp2_with (go_at_call 76; (refine (isLab_any _ l).mono ?_; rw [HBL.out]; rintro e w9 ⟨rfl, hb9⟩; have HX := Lib.hid (HX.out.below hb9 HX.out.lt); have HY := Lib.hid (HY.out.below hb9 HY.out.lt); have HB := Lib.hid (then_ HB.out hb9); clear hb9; clear qX0 qX1 qX2 qX3 lX qY1 qY2 qY3 lY; have qX0 := HX.out.cell (i := 0) (v := .int .i64 k) rfl; have qX2 := HX.out.cell (i := 2) (v := .slice T1 tx.length d1) rfl; have qX3 := HX.out.cell (i := 3) (v := .slice P1 px.length d2) rfl; have lX := HX.out.lt; have qY1 := HY.out.cell (i := 1) (v := .bool true) rfl; have qY2 := HY.out.cell (i := 2) (v := .int .i64 (leastS k : Nat)) rfl; have qY3 := HY.out.cell (i := 3) (v := .int .i64 (mostS k : Nat)) rfl; have lY := HY.out.lt))
      go_wp2_with fail
      go_ret
      exact ⟨ret_bool HFF.out.symm, HB.out⟩
    | true =>
      cases c1 with
      | true =>
        have HFF : Hid (res = false) := Lib.hid (by rw [HRES.out]; simp)
        go_enter Tryd.func41, Tryd.ntmps41
        go_upto_region 4 with fail
        rw [← HW0.out]
        go_wp2_with (go_at_call 76; (refine (isLab_any _ l).mono ?_; rw [HBL.out]; rintro e w9 ⟨rfl, hb9⟩; have HX := Lib.hid (HX.out.below hb9 HX.out.lt); have HY := Lib.hid (HY.out.below hb9 HY.out.lt); have HB := Lib.hid (then_ HB.out hb9); clear hb9; clear qX0 qX1 qX2 qX3 lX qY1 qY2 qY3 lY; have qX0 := HX.out.cell (i := 0) (v := .int .i64 k) rfl; have qX2 := HX.out.cell (i := 2) (v := .slice T1 tx.length d1) rfl; have qX3 := HX.out.cell (i := 3) (v := .slice P1 px.length d2) rfl; have lX := HX.out.lt; have qY1 := HY.out.cell (i := 1) (v := .bool true) rfl; have qY2 := HY.out.cell (i := 2) (v := .int .i64 (leastS k : Nat)) rfl; have qY3 := HY.out.cell (i := 3) (v := .int .i64 (mostS k : Nat)) rfl; have lY := HY.out.lt))
        go_wp2_with fail
        go_ret
        exact ⟨ret_bool HFF.out.symm, HB.out⟩
      | false =>
        cases c2 with
        | true =>
          have HFF : Hid (res = false) := Lib.hid (by rw [HRES.out]; simp)
          go_enter Tryd.func41, Tryd.ntmps41
          go_upto_region 4 with fail
          rw [← HW0.out]
          go_wp2_with (go_at_call 76; (refine (isLab_any _ l).mono ?_; rw [HBL.out]; rintro e w9 ⟨rfl, hb9⟩; have HX := Lib.hid (HX.out.below hb9 HX.out.lt); have HY := Lib.hid (HY.out.below hb9 HY.out.lt); have HB := Lib.hid (then_ HB.out hb9); clear hb9; clear qX0 qX1 qX2 qX3 lX qY1 qY2 qY3 lY; have qX0 := HX.out.cell (i := 0) (v := .int .i64 k) rfl; have qX2 := HX.out.cell (i := 2) (v := .slice T1 tx.length d1) rfl; have qX3 := HX.out.cell (i := 3) (v := .slice P1 px.length d2) rfl; have lX := HX.out.lt; have qY1 := HY.out.cell (i := 1) (v := .bool true) rfl; have qY2 := HY.out.cell (i := 2) (v := .int .i64 (leastS k : Nat)) rfl; have qY3 := HY.out.cell (i := 3) (v := .int .i64 (mostS k : Nat)) rfl; have lY := HY.out.lt))
          go_wp2_with fail
          go_ret
          exact ⟨ret_bool HFF.out.symm, HB.out⟩
        | false =>
          cases n1 with
          | true =>
            have HFF : Hid (res = false) := Lib.hid (by rw [HRES.out]; simp)
            go_enter Tryd.func41, Tryd.ntmps41
            go_upto_region 4 with fail
            rw [← HW0.out]
            go_wp2_with (go_at_call 76; (refine (isLab_any _ l).mono ?_; rw [HBL.out]; rintro e w9 ⟨rfl, hb9⟩; have HX := Lib.hid (HX.out.below hb9 HX.out.lt); have HY := Lib.hid (HY.out.below hb9 HY.out.lt); have HB := Lib.hid (then_ HB.out hb9); clear hb9; clear qX0 qX1 qX2 qX3 lX qY1 qY2 qY3 lY; have qX0 := HX.out.cell (i := 0) (v := .int .i64 k) rfl; have qX2 := HX.out.cell (i := 2) (v := .slice T1 tx.length d1) rfl; have qX3 := HX.out.cell (i := 3) (v := .slice P1 px.length d2) rfl; have lX := HX.out.lt; have qY1 := HY.out.cell (i := 1) (v := .bool true) rfl; have qY2 := HY.out.cell (i := 2) (v := .int .i64 (leastS k : Nat)) rfl; have qY3 := HY.out.cell (i := 3) (v := .int .i64 (mostS k : Nat)) rfl; have lY := HY.out.lt))
            refine form_tail1 HX.out HB.out HT.out HA1.out  ?_
            intro tm W' h2 hb
            rw [Array.getD_eq_getD_getElem?] at h2
            go_wp2_with fail
            exact bodyPost_ret (v := .bool res) (by simp [results, Tryd.results41, go_sem, h2, HFF.out]) rfl ⟨rfl, hb⟩
          | false =>
            cases n2 with
            | true =>
              have HFF : Hid (res = false) := Lib.hid (by rw [HRES.out]; simp)
              go_enter Tryd.func41, Tryd.ntmps41
              go_upto_region 4 with fail
              rw [← HW0.out]
              go_wp2_with (go_at_call 76; (refine (isLab_any _ l).mono ?_; rw [HBL.out]; rintro e w9 ⟨rfl, hb9⟩; have HX := Lib.hid (HX.out.below hb9 HX.out.lt); have HY := Lib.hid (HY.out.below hb9 HY.out.lt); have HB := Lib.hid (then_ HB.out hb9); clear hb9; clear qX0 qX1 qX2 qX3 lX qY1 qY2 qY3 lY; have qX0 := HX.out.cell (i := 0) (v := .int .i64 k) rfl; have qX2 := HX.out.cell (i := 2) (v := .slice T1 tx.length d1) rfl; have qX3 := HX.out.cell (i := 3) (v := .slice P1 px.length d2) rfl; have lX := HX.out.lt; have qY1 := HY.out.cell (i := 1) (v := .bool true) rfl; have qY2 := HY.out.cell (i := 2) (v := .int .i64 (leastS k : Nat)) rfl; have qY3 := HY.out.cell (i := 3) (v := .int .i64 (mostS k : Nat)) rfl; have lY := HY.out.lt))
              refine form_tail2 HX.out HB.out HT.out HP.out HA1.out HA2.out  ?_
              intro tm W' h2 hb
              rw [Array.getD_eq_getD_getElem?] at h2
              go_wp2_with fail
              exact bodyPost_ret (v := .bool res) (by simp [results, Tryd.results41, go_sem, h2, HFF.out]) rfl ⟨rfl, hb⟩
            | false =>
              cases c7 with
              | true =>
                have HFF : Hid (res = true) := Lib.hid (by rw [HRES.out]; simp)
                go_enter Tryd.func41, Tryd.ntmps41
                go_upto_region 4 with fail
                rw [← HW0.out]
                go_wp2_with (go_at_call 76; (refine (isLab_any _ l).mono ?_; rw [HBL.out]; rintro e w9 ⟨rfl, hb9⟩; have HX := Lib.hid (HX.out.below hb9 HX.out.lt); have HY := Lib.hid (HY.out.below hb9 HY.out.lt); have HB := Lib.hid (then_ HB.out hb9); clear hb9; clear qX0 qX1 qX2 qX3 lX qY1 qY2 qY3 lY; have qX0 := HX.out.cell (i := 0) (v := .int .i64 k) rfl; have qX2 := HX.out.cell (i := 2) (v := .slice T1 tx.length d1) rfl; have qX3 := HX.out.cell (i := 3) (v := .slice P1 px.length d2) rfl; have lX := HX.out.lt; have qY1 := HY.out.cell (i := 1) (v := .bool true) rfl; have qY2 := HY.out.cell (i := 2) (v := .int .i64 (leastS k : Nat)) rfl; have qY3 := HY.out.cell (i := 3) (v := .int .i64 (mostS k : Nat)) rfl; have lY := HY.out.lt))
                refine form_tail3 HX.out HB.out HT.out HP.out HA1.out HA2.out hc7 ?_
                intro tm W' h2 hb
                rw [Array.getD_eq_getD_getElem?] at h2
                go_wp2_with fail
                exact bodyPost_ret (v := .bool res) (by simp [results, Tryd.results41, go_sem, h2, HFF.out]) rfl ⟨rfl, hb⟩
              | false =>
                cases e0 with
                | true =>
                  have HFF : Hid (res = true) := Lib.hid (by rw [HRES.out]; simp)
                  go_enter Tryd.func41, Tryd.ntmps41
                  go_upto_region 4 with fail
                  rw [← HW0.out]
                  go_wp2_with (go_at_call 76; (refine (isLab_any _ l).mono ?_; rw [HBL.out]; rintro e w9 ⟨rfl, hb9⟩; have HX := Lib.hid (HX.out.below hb9 HX.out.lt); have HY := Lib.hid (HY.out.below hb9 HY.out.lt); have HB := Lib.hid (then_ HB.out hb9); clear hb9; clear qX0 qX1 qX2 qX3 lX qY1 qY2 qY3 lY; have qX0 := HX.out.cell (i := 0) (v := .int .i64 k) rfl; have qX2 := HX.out.cell (i := 2) (v := .slice T1 tx.length d1) rfl; have qX3 := HX.out.cell (i := 3) (v := .slice P1 px.length d2) rfl; have lX := HX.out.lt; have qY1 := HY.out.cell (i := 1) (v := .bool true) rfl; have qY2 := HY.out.cell (i := 2) (v := .int .i64 (leastS k : Nat)) rfl; have qY3 := HY.out.cell (i := 3) (v := .int .i64 (mostS k : Nat)) rfl; have lY := HY.out.lt))
                  refine form_tail4 HX.out HB.out HT.out HP.out HA1.out HA2.out hc7 he0 ?_
                  intro tm W' h2 hb
                  rw [Array.getD_eq_getD_getElem?] at h2
                  go_wp2_with fail
                  exact bodyPost_ret (v := .bool res) (by simp [results, Tryd.results41, go_sem, h2, HFF.out]) rfl ⟨rfl, hb⟩
                | false =>
                  have HFF : Hid (res = false) := Lib.hid (by rw [HRES.out]; simp)
                  go_enter Tryd.func41, Tryd.ntmps41
                  go_upto_region 4 with fail
                  rw [← HW0.out]
                  go_wp2_with (go_at_call 76; (refine (isLab_any _ l).mono ?_; rw [HBL.out]; rintro e w9 ⟨rfl, hb9⟩; have HX := Lib.hid (HX.out.below hb9 HX.out.lt); have HY := Lib.hid (HY.out.below hb9 HY.out.lt); have HB := Lib.hid (then_ HB.out hb9); clear hb9; clear qX0 qX1 qX2 qX3 lX qY1 qY2 qY3 lY; have qX0 := HX.out.cell (i := 0) (v := .int .i64 k) rfl; have qX2 := HX.out.cell (i := 2) (v := .slice T1 tx.length d1) rfl; have qX3 := HX.out.cell (i := 3) (v := .slice P1 px.length d2) rfl; have lX := HX.out.lt; have qY1 := HY.out.cell (i := 1) (v := .bool true) rfl; have qY2 := HY.out.cell (i := 2) (v := .int .i64 (leastS k : Nat)) rfl; have qY3 := HY.out.cell (i := 3) (v := .int .i64 (mostS k : Nat)) rfl; have lY := HY.out.lt))
                  refine form_tail5 HX.out HB.out HT.out HP.out HA1.out HA2.out hc7 he0 ?_
                  intro tm W' h2 hb
                  rw [Array.getD_eq_getD_getElem?] at h2
                  go_wp2_with fail
                  exact bodyPost_ret (v := .bool res) (by simp [results, Tryd.results41, go_sem, h2, HFF.out]) rfl ⟨rfl, hb⟩
  | false =>
    cases be with
    | false =>
      have HFF : Hid (res = false) := Lib.hid (by rw [HRES.out]; simp)
      go_enter Tryd.func41, Tryd.ntmps41
      go_upto_region 4 with fail
      rw [← HW0.out]
      go_wp2_with fail
      go_wp2_with fail
      go_ret
      exact ⟨ret_bool HFF.out.symm, HB.out⟩
    | true =>
      cases c1 with
      | true =>
        have HFF : Hid (res = false) := Lib.hid (by rw [HRES.out]; simp)
        go_enter Tryd.func41, Tryd.ntmps41
        go_upto_region 4 with fail
        rw [← HW0.out]
        go_wp2_with fail
        go_wp2_with fail
        go_ret
        exact ⟨ret_bool HFF.out.symm, HB.out⟩
      | false =>
        cases c2 with
        | true =>
          have HFF : Hid (res = false) := Lib.hid (by rw [HRES.out]; simp)
          go_enter Tryd.func41, Tryd.ntmps41
          go_upto_region 4 with fail
          rw [← HW0.out]
          go_wp2_with fail
          go_wp2_with fail
          go_ret
          exact ⟨ret_bool HFF.out.symm, HB.out⟩
        | false =>
          cases n1 with
          | true =>
            have HFF : Hid (res = false) := Lib.hid (by rw [HRES.out]; simp)
            go_enter Tryd.func41, Tryd.ntmps41
            go_upto_region 4 with fail
            rw [← HW0.out]
            go_wp2_with fail
            refine form_tail1 HX.out HB.out HT.out HA1.out  ?_
            intro tm W' h2 hb
            rw [Array.getD_eq_getD_getElem?] at h2
            go_wp2_with fail
            exact bodyPost_ret (v := .bool res) (by simp [results, Tryd.results41, go_sem, h2, HFF.out]) rfl ⟨rfl, hb⟩
          | false =>
            cases n2 with
            | true =>
              have HFF : Hid (res = false) := Lib.hid (by rw [HRES.out]; simp)
              go_enter Tryd.func41, Tryd.ntmps41
              go_upto_region 4 with fail
              rw [← HW0.out]
              go_wp2_with fail
              refine form_tail2 HX.out HB.out HT.out HP.out HA1.out HA2.out  ?_
              intro tm W' h2 hb
              rw [Array.getD_eq_getD_getElem?] at h2
              go_wp2_with fail
              exact bodyPost_ret (v := .bool res) (by simp [results, Tryd.results41, go_sem, h2, HFF.out]) rfl ⟨rfl, hb⟩
            | false =>
              cases c7 with
              | true =>
                have HFF : Hid (res = true) := Lib.hid (by rw [HRES.out]; simp)
                go_enter Tryd.func41, Tryd.ntmps41
                go_upto_region 4 with fail
                rw [← HW0.out]
                go_wp2_with fail
                refine form_tail3 HX.out HB.out HT.out HP.out HA1.out HA2.out hc7 ?_
                intro tm W' h2 hb
                rw [Array.getD_eq_getD_getElem?] at h2
                go_wp2_with fail
                exact bodyPost_ret (v := .bool res) (by simp [results, Tryd.results41, go_sem, h2, HFF.out]) rfl ⟨rfl, hb⟩
              | false =>
                cases e0 with
                | true =>
                  have HFF : Hid (res = true) := Lib.hid (by rw [HRES.out]; simp)
                  go_enter Tryd.func41, Tryd.ntmps41
                  go_upto_region 4 with fail
                  rw [← HW0.out]
                  go_wp2_with fail
                  refine form_tail4 HX.out HB.out HT.out HP.out HA1.out HA2.out hc7 he0 ?_
                  intro tm W' h2 hb
                  rw [Array.getD_eq_getD_getElem?] at h2
                  go_wp2_with fail
                  exact bodyPost_ret (v := .bool res) (by simp [results, Tryd.results41, go_sem, h2, HFF.out]) rfl ⟨rfl, hb⟩
                | false =>
                  have HFF : Hid (res = false) := Lib.hid (by rw [HRES.out]; simp)
                  go_enter Tryd.func41, Tryd.ntmps41
                  go_upto_region 4 with fail
                  rw [← HW0.out]
                  go_wp2_with fail
                  refine form_tail5 HX.out HB.out HT.out HP.out HA1.out HA2.out hc7 he0 ?_
                  intro tm W' h2 hb
                  rw [Array.getD_eq_getD_getElem?] at h2
                  go_wp2_with fail
                  exact bodyPost_ret (v := .bool res) (by simp [results, Tryd.results41, go_sem, h2, HFF.out]) rfl ⟨rfl, hb⟩
end Go.Proofs.YtpmbfcogkoiogaaDoor
end
section
namespace Go.Proofs.YtpmbfcogkoiogaaDoor
open Go.RowKit
set_option maxRecDepth 100000 in
theorem words_clo (w : World) (x : StmD) (tv pv : Value) (hT : Strs w tv x.text) (hP : Strs w pv x.proof) (hF : FormsAt w) :
    Calls Tryd.prog 40 #[stmV x.kind x.label tv pv] w fun e w' => e = .returned (.bool (!formedS x)) ∧ Below w.heap.size w w' := by
  obtain ⟨r, hr⟩ : ∃ r, formedS x = r := ⟨_, rfl⟩
  have HR := Lib.hid hr
  rw [hr]
  have HT := Lib.hid hT
  have HP := Lib.hid hP
  have HF := Lib.hid hF
  obtain ⟨T1, d1, rfl, -⟩ := hT.open_
  obtain ⟨P1, d2, rfl, -⟩ := hP.open_
  clear hr hT hP hF
  unfold stmV
  go_enter Tryd.func40, Tryd.ntmps40
  go_wp2_with (go_at_call 41; (refine (formed_any _ x _ _ (Strs.alloc HT.out _) (Strs.alloc HP.out _) (HF.out.below (new_ (Below.refl _ _) _))).mono ?_; rw [HR.out]; rintro e w2 ⟨rfl, hb2⟩))
  go_ret
  exact ⟨rfl, then_ (new_ (Below.refl _ _) _) hb2⟩
set_option maxRecDepth 100000 in
theorem indexStm (w : World) (v : Value) (l : List StmD) (hv : Stms w v l) (hF : FormsAt w) :
    Calls Tryd.prog 87 #[v, .func (.func 40) #[] #[]] w fun e w' => ∃ z : Int, e = .returned (.int .i64 z) ∧ decide (0 ≤ z) = !(l.all formedS) ∧ Below w.heap.size w w' := by
  obtain ⟨A, c, rfl, hc, hm, hx⟩ := hv.open_
  unfold maxLen at hm
  have HXX := Lib.hid hx
  have HF := Lib.hid hF
  clear hv hx hF
  go_enter Tryd.func87, Tryd.ntmps87
  go_wp2
  go_loopw [8] (fun i wr => ∃ k : Nat, k ≤ l.length ∧ i = .int .i64 k ∧ (∀ y ∈ l.take k, formedS y = true) ∧ Below w.heap.size w wr) (fun i _ => l.length - (intOf i).toNat)
  case atStart => exact ⟨0, Nat.zero_le _, rfl, by simp, Below.refl _ _⟩
  case round =>
    obtain ⟨k, hk, rfl, hn, hb⟩ := hrel
    have HN := Lib.hid hn
    have HB := Lib.hid hb
    clear hn hb
    by_cases hlt : k < l.length
    · obtain ⟨y, hy⟩ : ∃ y, l[k]? = some y := ⟨_, List.getElem?_eq_getElem hlt⟩
      obtain ⟨b, o, tv, pv, rfl, g0, g1, g2, g3, hT, hP⟩ := HXX.out k y hy
      have hlb := block_lt_of_cell g0
      obtain ⟨T1, d1, rfl, -⟩ := hT.open_
      obtain ⟨P1, d2, rfl, -⟩ := hP.open_
      have q0 : wr.cell? ⟨b, o + k * 4, none⟩ = some (.int .i64 y.kind) := (HB.out.cell (p := ⟨b, o + k * 4, none⟩) hlb).trans g0
      have q1 : wr.cell? ⟨b, o + k * 4 + 1, none⟩ = some (.string ⟨y.label.toArray⟩) := (HB.out.cell (p := ⟨b, o + k * 4 + 1, none⟩) hlb).trans g1
      have q2 : wr.cell? ⟨b, o + k * 4 + 2, none⟩ = some (.slice T1 y.text.length d1) := (HB.out.cell (p := ⟨b, o + k * 4 + 2, none⟩) hlb).trans g2
      have q3 : wr.cell? ⟨b, o + k * 4 + 3, none⟩ = some (.slice P1 y.proof.length d2) := (HB.out.cell (p := ⟨b, o + k * 4 + 3, none⟩) hlb).trans g3
      have hbl : b < wr.heap.size := Nat.lt_of_lt_of_le hlb HB.out.size
      have HY := Lib.hid hy
      have HT := Lib.hid hT
      have HP := Lib.hid hP
      obtain ⟨q, hq⟩ : ∃ q, formedS y = q := ⟨_, rfl⟩
      have HQ := Lib.hid hq
      clear hq hy hT hP g0 g1 g2 g3
      cases q with
      | true =>
        have HNN := Lib.hid (all_take_next HY.out HN.out HQ.out)
        go_wp2_with (go_at_call 40; (refine (words_clo _ y _ _ (Strs.below HT.out HB.out) (Strs.below HP.out HB.out) (HF.out.below HB.out)).mono ?_; rw [HQ.out]; rintro e w2 ⟨rfl, hb2⟩))
        go_roundw
        case rel => exact ⟨k + 1, by omega, by go_num, HNN.out, then_ HB.out hb2⟩
        case measure => simp [intOf]; omega
      | false =>
        have HK : Hid (decide ((0 : Int) ≤ (k : Int)) = !(l.all formedS)) := Lib.hid (by
          rw [decide_eq_true (by omega), List.all_eq_false.2 ⟨y, List.mem_of_getElem? HY.out, by rw [HQ.out]; decide⟩]
          rfl)
        go_wp2_with (go_at_call 40; (refine (words_clo _ y _ _ (Strs.below HT.out HB.out) (Strs.below HP.out HB.out) (HF.out.below HB.out)).mono ?_; rw [HQ.out]; rintro e w2 ⟨rfl, hb2⟩))
        go_ret
        exact ⟨_, rfl, HK.out, then_ HB.out hb2⟩
    · have HK : Hid (decide ((0 : Int) ≤ -1) = !(l.all formedS)) := Lib.hid (by
        rw [decide_eq_false (by omega), List.all_eq_true.2 (all_of_take (by omega) HN.out)]
        rfl)
      go_wp2
      go_ret
      exact ⟨_, rfl, HK.out, HB.out⟩
set_option maxRecDepth 100000 in
theorem containsStm (w : World) (v : Value) (l : List StmD) (r : Bool) (hr : l.all formedS = r) (hv : Stms w v l) (hF : FormsAt w) :
    Calls Tryd.prog 39 #[v, .func (.func 40) #[] #[]] w fun e w' => e = .returned (.bool (!r)) ∧ Below w.heap.size w w' := by
  have HRR := Lib.hid hr
  clear hr
  go_enter Tryd.func39, Tryd.ntmps39
  go_wp2_with (go_at_call 87; (refine (indexStm _ v l hv hF).mono ?_; rw [HRR.out]; rintro e w2 ⟨z, rfl, hz, hb2⟩))
  go_ret
  exact ⟨rfl, hb2⟩
theorem flat_part {l : List StmD} {k : Nat} : ((l.take k).flatMap wordsS).length ≤ (l.flatMap wordsS).length := by
  have h := congrArg (fun q => (List.flatMap wordsS q).length) (List.take_append_drop k l)
  rw [List.flatMap_append, List.length_append] at h
  omega
set_option maxRecDepth 100000 in
set_option maxHeartbeats 8000000 in
theorem all_any (w : World) (v : Value) (l : List StmD) (hv : Stms w v l) (ho : ∀ x ∈ l, x.proof.length ≤ 10000) (hF : FormsAt w) :
    Calls Tryd.prog 14 #[v] w (AllPost w (allW l)) := by
  obtain ⟨A, c, rfl, hc, hm, hx⟩ := hv.open_
  unfold maxLen at hm
  have HV := Lib.hid hv
  have HO := Lib.hid ho
  have HXX := Lib.hid hx
  have HF := Lib.hid hF
  clear hv hx ho hF
  by_cases h2 : 2000 < l.length
  · have e2 : decide ((2000 : Int) < (l.length : Int)) = true := decide_eq_true (by omega)
    rw [allW_full h2]
    clear h2
    go_enter Tryd.func14, Tryd.ntmps14
    go_wp2
    go_ret2
    exact ⟨_, rfl, Rds.nil_, Below.refl _ _⟩
  have e2 : decide ((2000 : Int) < (l.length : Int)) = false := decide_eq_false (by omega)
  obtain ⟨R, hR⟩ : ∃ R, allW l = R := ⟨_, rfl⟩
  rw [hR]
  have HR := Lib.hid hR
  have H2 := Lib.hid h2
  have hl2 : l.length ≤ 2000 := by omega
  obtain ⟨fa, hfa⟩ : ∃ b, l.all formedS = b := ⟨_, rfl⟩
  have HFA := Lib.hid hfa
  clear hR h2 hfa
  cases fa with
  | false =>
    have HFF : Hid (R = ([], 2)) := Lib.hid (by rw [← HR.out]; exact allW_bad H2.out HFA.out)
    go_enter Tryd.func14, Tryd.ntmps14
    go_wp2_with (go_at_call 39; (refine (containsStm _ _ l false HFA.out HV.out HF.out).mono ?_; rintro e w2 ⟨rfl, hb2⟩))
    go_ret2
    rw [HFF.out]
    exact ⟨_, rfl, Rds.nil_, hb2⟩
  | true =>
    have HAX : Hid (∀ x ∈ l, formedS x = true) := Lib.hid (List.all_eq_true.1 HFA.out)
    go_enter Tryd.func14, Tryd.ntmps14
    go_wp2_with (go_at_call 39; (refine (containsStm _ _ l true HFA.out HV.out HF.out).mono ?_; rintro e w2 ⟨rfl, hb2⟩; have HB2 := Lib.hid hb2; clear hb2))
    go_loopw [4, 14] (fun v4 v14 wq => ∃ (j : Nat) (L : List (List UInt8)) (A5 : Option Addr) (c5 : Nat), j ≤ l.length ∧ v14 = .int .i64 j ∧ v4 = .slice A5 L.length c5 ∧ (l.take j).flatMap wordsS = L ∧ L.length ≤ 8000 ∧ OutAt w wq v4 L) (fun _ v14 _ => l.length - (intOf v14).toNat)
    case atStart => exact ⟨0, [], _, _, Nat.zero_le _, rfl, rfl, by simp, by simp, ⟨own_nil _ _ _ _, HB2.out⟩⟩
    case round =>
      obtain ⟨j, L, A5, c5, hj, rfl, rfl, hL, hL8, hout⟩ := hrel
      have HL := Lib.hid hL
      have HOUT := Lib.hid hout
      clear hL hout
      by_cases hlt : j < l.length
      · obtain ⟨y, hy⟩ : ∃ y, l[j]? = some y := ⟨_, List.getElem?_eq_getElem hlt⟩
        obtain ⟨b, o, tv, pv, rfl, g0, g1, g2, g3, hT, hP⟩ := HXX.out j y hy
        have hlb := block_lt_of_cell g0
        obtain ⟨T1, d1, rfl, -⟩ := hT.open_
        obtain ⟨P1, d2, rfl, -⟩ := hP.open_
        have q0 : wr.cell? ⟨b, o + j * 4, none⟩ = some (.int .i64 y.kind) := (HOUT.out.below.cell (p := ⟨b, o + j * 4, none⟩) hlb).trans g0
        have q1 : wr.cell? ⟨b, o + j * 4 + 1, none⟩ = some (.string ⟨y.label.toArray⟩) := (HOUT.out.below.cell (p := ⟨b, o + j * 4 + 1, none⟩) hlb).trans g1
        have q2 : wr.cell? ⟨b, o + j * 4 + 2, none⟩ = some (.slice T1 y.text.length d1) := (HOUT.out.below.cell (p := ⟨b, o + j * 4 + 2, none⟩) hlb).trans g2
        have q3 : wr.cell? ⟨b, o + j * 4 + 3, none⟩ = some (.slice P1 y.proof.length d2) := (HOUT.out.below.cell (p := ⟨b, o + j * 4 + 3, none⟩) hlb).trans g3
        have hbl : b < wr.heap.size := Nat.lt_of_lt_of_le hlb HOUT.out.below.size
        have HY := Lib.hid hy
        have HT := Lib.hid hT
        have HP := Lib.hid hP
        have hp1 := HO.out y (List.mem_of_getElem? HY.out)
        have HFY := Lib.hid (HAX.out y (List.mem_of_getElem? HY.out))
        have hn9 : (wordsS y).length ≤ 10204 := by have h1 := words_len HFY.out; omega
        have ht9 : y.text.length ≤ 1000000 := by have h1 := (formed_len HFY.out).2; have h2 := mostS_le y.kind; omega
        have hp9 : y.proof.length ≤ 1000000 := by omega
        obtain ⟨Y, hYY⟩ : ∃ Y, wordsS y = Y := ⟨_, rfl⟩
        rw [hYY] at hn9
        have HWY := Lib.hid hYY
        clear hy hT hP g0 g1 g2 g3 hYY
        obtain ⟨i9, ki, k0, kk1, k2⟩ := info_parts infoStr
        go_wp2_with fail
        refine (wordsOf_any _ y _ _ ((Strs.below HT.out HOUT.out.below).alloc _) ((Strs.below HP.out HOUT.out.below).alloc _) (formed_kind HFY.out) ht9 hp9 (HF.out.below (new_ HOUT.out.below _))).mono ?_
        rw [HWY.out]
        rintro e w3 ⟨v9, rfl, hv9, hb3⟩
        obtain ⟨A9, c9, rfl, -⟩ := hv9.open_
        have HO9 := Lib.hid ((HOUT.out.next (new_ (Below.refl _ _) _)).next hb3)
        have HV9 := Lib.hid hv9
        clear hv9 hb3
        by_cases h8 : 8000 < L.length + Y.length
        · have HFF : Hid (R = ([], 4)) := Lib.hid (by
            rw [← HR.out]
            refine allW_long H2.out HFA.out ?_
            have h1 := flat_part (l := l) (k := j + 1)
            rw [flat_next HY.out, HL.out, HWY.out, List.length_append] at h1
            omega)
          go_wp2_with (at_builtin; (refine wpList_append_rds rfl (.tmp 18) (.tmp 20) 22 rfl w.heap.size 9 i9 (.string ⟨#[]⟩) 1 16 Tryd.underlying22 ki k0 kk1 k2 rfl (by decide) (.slice A5 L.length c5) L.length (strC L) (by rfl) HO9.out.own (.slice A9 Y.length c9) Y.length (strC Y) (by rfl) HV9.out (strC_one _) (by unfold maxLen; omega) (by omega) HO9.out.below.size ?_; intro V6 W6 ho6 hg6; have HO6 := Lib.hid (HO9.out.more ho6 hg6); clear ho6 hg6; obtain ⟨LY, hLY⟩ : ∃ LY, L ++ Y = LY := ⟨_, rfl⟩; have hlen : 8000 < LY.length := (by rw [← hLY, List.length_append]; exact h8); have e8 : decide ((8000 : Int) < (LY.length : Int)) = true := decide_eq_true (by omega); rw [hLY] at HO6; have HLY := Lib.hid hLY; clear hLY h8 hlen; obtain ⟨A6, c6, rfl⟩ := HO6.out.form))
          go_ret2
          rw [HFF.out]
          exact ⟨_, rfl, Rds.nil_, HO6.out.below⟩
        · go_wp2_with (at_builtin; (refine wpList_append_rds rfl (.tmp 18) (.tmp 20) 22 rfl w.heap.size 9 i9 (.string ⟨#[]⟩) 1 16 Tryd.underlying22 ki k0 kk1 k2 rfl (by decide) (.slice A5 L.length c5) L.length (strC L) (by rfl) HO9.out.own (.slice A9 Y.length c9) Y.length (strC Y) (by rfl) HV9.out (strC_one _) (by unfold maxLen; omega) (by omega) HO9.out.below.size ?_; intro V6 W6 ho6 hg6; have HO6 := Lib.hid (HO9.out.more ho6 hg6); clear ho6 hg6; obtain ⟨LY, hLY⟩ : ∃ LY, L ++ Y = LY := ⟨_, rfl⟩; have hlen : LY.length ≤ 8000 := (by rw [← hLY, List.length_append]; omega); have e8 : decide ((8000 : Int) < (LY.length : Int)) = false := decide_eq_false (by omega); rw [hLY] at HO6; have HLY := Lib.hid hLY; clear hLY h8; obtain ⟨A6, c6, rfl⟩ := HO6.out.form))
          go_roundw
          case rel => exact ⟨j + 1, LY, A6, c6, by omega, by go_num, rfl, by rw [flat_next HY.out, HL.out, HWY.out, HLY.out], hlen, HO6.out⟩
          case measure => simp [intOf]; omega
      · have HLL : Hid (l.flatMap wordsS = L) := Lib.hid (by have := HL.out; rw [List.take_of_length_le (by omega)] at this; exact this)
        have HFF : Hid (R = (L, 0)) := Lib.hid (by rw [← HR.out, allW_ok H2.out HFA.out (by rw [HLL.out]; omega), HLL.out])
        go_wp2
        go_ret2
        rw [HFF.out]
        exact ⟨_, rfl, HOUT.out.strs, HOUT.out.below⟩
end Go.Proofs.YtpmbfcogkoiogaaDoor
end
