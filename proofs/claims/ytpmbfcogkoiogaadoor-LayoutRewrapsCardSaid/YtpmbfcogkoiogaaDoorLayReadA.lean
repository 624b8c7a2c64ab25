/- The program's statements: the one that begins with a word. (Printed by gen_layread.py.) The program's statements: Parse. (Printed by gen_layparse2.py.) -/
import Derived.Test.YtpmbfcogkoiogaaDoorLayLA
import Derived.Test.YtpmbfcogkoiogaaDoorLayStA
import Derived.Test.YtpmbfcogkoiogaaDoorLayFnA
section
namespace Go.Proofs.YtpmbfcogkoiogaaDoor
open Go.RowKit
theorem rd_end {W w : World} {RB j : Nat} {z : Int} {tmps : Array Value} {r : (StmD × Nat) ⊕ (Nat × Int)} {x : StmD} {tv pv a0 a1 a2 a3 : Value} (h4 : tmps.getD 4 undef = .pointer (some ⟨RB, 0, none⟩)) (h5 : tmps.getD 5 undef = .int .i64 (j : Nat)) (h6 : tmps.getD 6 undef = .int .i64 z)
    (hr : Row w RB 34 #[a0, a1, a2, a3]) (hx : XAt w tv pv x) (hb : Below W.heap.size W w) (hge : W.heap.size ≤ RB) (hm : match r with | .inl (y, i) => x = y ∧ j = i ∧ z = 0 | .inr (i, c) => j = i ∧ z = c ∧ z ≠ 0) :
    bodyPost Tryd.prog Tryd.f37 (StmtPost W r) .ret { tmps := tmps, defers := [] } (setX w RB x.kind x.label tv pv) := by
  refine bodyPost_ret (v := .tuple #[stmV x.kind x.label tv pv, .int .i64 (j : Nat), .int .i64 z]) ?_ ?_ ?_
  · rw [results_row_tmp2 Tryd.results37 tmps _ RB _ _ _ h4 (setX_row hr) Tryd.underlying34 rfl (by kernel_rfl), h5, h6]
    rfl
  · rfl
  · exact ⟨x, tv, pv, j, z, rfl, setX_at hx hr, setX_below hb hge, hm⟩
set_option maxRecDepth 100000 in
set_option maxHeartbeats 16000000 in
theorem read_any (w : World) (v : Value) (ws : List (List UInt8)) (i : Nat) (hv : Strs w v ws) (hi : i < ws.length) (hN : ws.length ≤ 1000000) (hF : FormsAt w) :
    Calls Tryd.prog 37 #[v, .int .i64 (i : Nat)] w (StmtPost w (readW ws i)) := by
  obtain ⟨A1, c1, rfl, hc1, hm1, hxx⟩ := hv.open_
  obtain ⟨W1, hW1⟩ : ∃ W1, W1 = w.alloc (.cells #[.int .i64 0, .string ⟨#[]⟩, .slice none 0 0, .slice none 0 0] 34) := ⟨_, rfl⟩
  have hb1 : Below w.heap.size w W1 := by rw [hW1]; exact new_ (Below.refl _ _) _
  have rX : Row W1 w.heap.size 34 #[.int .i64 0, .string ⟨#[]⟩, .slice none 0 0, .slice none 0 0] := by rw [hW1]; exact Row.new _ _ _
  obtain ⟨R, hR⟩ : ∃ R, readW ws i = R := ⟨_, rfl⟩
  rw [hR]
  have HREL : Hid (RdRel w ws R i (.int .i64 0) (.int .i64 (i : Nat)) W1) := Lib.hid ⟨i, 0, 0, [], [], [], .slice none 0 0, .slice none 0 0, w.heap.size, rfl, rfl, rX, ⟨own_nil _ _ _ _, own_nil _ _ _ _, Nat.le_refl _, hb1.size⟩, hb1, by omega, Nat.zero_le _, Nat.zero_le _, .inl ⟨rfl, rfl, rfl, rfl, rfl, rfl, rfl, hR⟩⟩
  have HXX := Lib.hid hxx
  have HF := Lib.hid hF
  have HW1 := Lib.hid hW1
  clear hv hxx hF hR rX hb1 hW1
  go_enter Tryd.func37, Tryd.ntmps37
  go_wp2_with fail
  rw [← HW1.out]
  clear HW1
  go_step3
  go_wp2_with fail
  go_step3
  go_wp2_with fail
  go_loopw [7, 8] (RdRel w ws R i) (fun _ iv _ => ws.length + 1 - (intOf iv).toNat)
  case atStart => exact HREL.out
  case round =>
    obtain ⟨j, st, kz, l, tx, px, tv, pv, B, rfl, rfl, hx, hxo, hbl, hjl, htj, hpj, hst⟩ := hrel
    clear HREL
    have HXr := Lib.hid hx
    have HXO := Lib.hid hxo
    have HBr := Lib.hid hbl
    have HST := Lib.hid hst
    clear hx hxo hbl hst
    by_cases hje : j = ws.length
    · have ej : ((j : Int) == (ws.length : Int)) = true := by simp; omega
      have HQ : Hid (R = .inr (ws.length, 16)) := Lib.hid (by
        rcases HST.out with ⟨rfl, rfl, rfl, rfl, rfl, rfl, rfl, h⟩ | ⟨rfl, rfl, rfl, rfl, rfl, rfl, h⟩ | ⟨rfl, rfl, rfl, k, rfl, _, _, _, h⟩ | ⟨rfl, rfl, _, h⟩ <;> rw [← h, prun_end (by omega), hje])
      have fq := HXr.out.free
      have lxr := HXr.out.lt
      have q0 := HXr.out.cell (i := 0) rfl
      have q1 := HXr.out.cell (i := 1) rfl
      have q2 := HXr.out.cell (i := 2) rfl
      have q3 := HXr.out.cell (i := 3) rfl
      clear hje
      go_wp2_with fail
      rw [HQ.out]
      exact rd_end (x := ⟨0, [], [], []⟩) (tv := .slice none 0 0) (pv := .slice none 0 0) (j := ws.length) rfl rfl rfl HXr.out (XAt.nil _ 0 []) HBr.out (Nat.le_refl _) ⟨rfl, rfl, by decide⟩
    have ej : ((j : Int) == (ws.length : Int)) = false := by rw [beq_eq_false_iff_ne]; omega
    have hlt : j < ws.length := by omega
    clear hje
    obtain ⟨sw, hsw⟩ : ∃ sw, ws[j]? = some sw := ⟨_, List.getElem?_eq_getElem hlt⟩
    obtain ⟨b, o, rfl, g0⟩ := HXX.out j sw hsw
    have hlb : b < w.heap.size := block_lt_of_cell g0
    have gj : wr.cell? ⟨b, o + j, none⟩ = some (.string ⟨sw.toArray⟩) := (HBr.out.cell (p := ⟨b, o + j, none⟩) hlb).trans g0
    have HS := Lib.hid hsw
    clear hsw g0
    have j0 : (0 : Int) ≤ (j : Int) := by omega
    have j1 : (j : Int) < (ws.length : Int) := by omega
    have hlbr : b < wr.heap.size := Nat.lt_of_lt_of_le hlb HBr.out.size
    obtain ⟨kt, hkt⟩ : ∃ kt, kindS sw = kt := ⟨_, rfl⟩
    have hk9 : kt ≤ 9 := by rw [← hkt]; exact kindS_le sw
    have HKT := Lib.hid hkt
    clear hkt
    rcases HST.out with ⟨rfl, rfl, rfl, rfl, rfl, rfl, rfl, hrun⟩ | ⟨rfl, rfl, rfl, rfl, rfl, rfl, hrun⟩ | ⟨rfl, rfl, rfl, k, rfl, n1, n2, ht2, hrun⟩ | ⟨rfl, rfl, htb, hrun⟩
    · have HRUN := Lib.hid hrun
      clear hrun HST
      have q0 := HXr.out.cell (i := 0) (v := .int .i64 0) rfl
      have q1 := HXr.out.cell (i := 1) (v := .string ⟨#[]⟩) rfl
      have q2 := HXr.out.cell (i := 2) (v := .slice none 0 0) rfl
      have q3 := HXr.out.cell (i := 3) (v := .slice none 0 0) rfl
      have fq := HXr.out.free
      have lxr := HXr.out.lt
      go_wp2_with fail
      refine (kindOf_any _ sw (HF.out.below HBr.out)).mono ?_
      rw [HKT.out]
      rintro e w2 ⟨rfl, hb2⟩
      have HB2 : Hid (Below wr.heap.size wr w2) := Lib.hid hb2
      clear hb2
      replace HXO := Lib.hid (HXO.out.below HB2.out)
      replace HXr := Lib.hid (HXr.out.below HB2.out lxr)
      replace HBr := Lib.hid (then_ HBr.out HB2.out)
      clear q0 q1 q2 q3 fq lxr
      have q0 := HXr.out.cell (i := 0) (v := .int .i64 0) rfl
      have q1 := HXr.out.cell (i := 1) (v := .string ⟨#[]⟩) rfl
      have q2 := HXr.out.cell (i := 2) (v := .slice none 0 0) rfl
      have q3 := HXr.out.cell (i := 3) (v := .slice none 0 0) rfl
      have fq := HXr.out.free
      have lxr := HXr.out.lt
      clear HB2 gj hlbr
      by_cases hk0 : kt = 0
      · have e0 : ((kt : Int) != 0) = false := by rw [hk0]; rfl
        have e00 : ((kt : Int) == 0) = true := by rw [hk0]; rfl
        have HK0 := Lib.hid hk0
        clear hk0
        obtain ⟨bk, hbk⟩ : ∃ bk, isKw sw = bk := ⟨_, rfl⟩
        have HBK := Lib.hid hbk
        clear hbk
        go_wp2_with fail
        refine (isKw_any _ sw).mono ?_
        rw [HBK.out]
        rintro e w3 ⟨rfl, hb3⟩
        have HB3 : Hid (Below w2.heap.size w2 w3) := Lib.hid hb3
        clear hb3
        replace HXO := Lib.hid (HXO.out.below HB3.out)
        replace HXr := Lib.hid (HXr.out.below HB3.out lxr)
        replace HBr := Lib.hid (then_ HBr.out HB3.out)
        clear q0 q1 q2 q3 fq lxr
        have q0 := HXr.out.cell (i := 0) (v := .int .i64 0) rfl
        have q1 := HXr.out.cell (i := 1) (v := .string ⟨#[]⟩) rfl
        have q2 := HXr.out.cell (i := 2) (v := .slice none 0 0) rfl
        have q3 := HXr.out.cell (i := 3) (v := .slice none 0 0) rfl
        have fq := HXr.out.free
        have lxr := HXr.out.lt
        cases bk with
        | true =>
          have HQ : Hid (R = .inr (j, 50)) := Lib.hid (by rw [← HRUN.out]; exact prun_bad HS.out (ps_b_kw (HKT.out.trans HK0.out) HBK.out))
          go_wp2_with fail
          rw [HQ.out]
          exact rd_end (x := ⟨0, [], [], []⟩) (tv := .slice none 0 0) (pv := .slice none 0 0) (j := j) rfl rfl rfl HXr.out (XAt.nil _ 0 []) HBr.out (Nat.le_refl _) ⟨rfl, rfl, by decide⟩
        | false =>
          obtain ⟨bl, hbl⟩ : ∃ bl, labB sw = bl := ⟨_, rfl⟩
          have HBL := Lib.hid hbl
          clear hbl
          go_wp2_with fail
          refine (isLab_any _ sw).mono ?_
          rw [HBL.out]
          rintro e w4 ⟨rfl, hb4⟩
          have HB4 : Hid (Below w3.heap.size w3 w4) := Lib.hid hb4
          clear hb4
          replace HXO := Lib.hid (HXO.out.below HB4.out)
          replace HXr := Lib.hid (HXr.out.below HB4.out lxr)
          replace HBr := Lib.hid (then_ HBr.out HB4.out)
          clear q0 q1 q2 q3 fq lxr
          have q0 := HXr.out.cell (i := 0) (v := .int .i64 0) rfl
          have q1 := HXr.out.cell (i := 1) (v := .string ⟨#[]⟩) rfl
          have q2 := HXr.out.cell (i := 2) (v := .slice none 0 0) rfl
          have q3 := HXr.out.cell (i := 3) (v := .slice none 0 0) rfl
          have fq := HXr.out.free
          have lxr := HXr.out.lt
          cases bl with
          | false =>
            have HQ : Hid (R = .inr (j, 51)) := Lib.hid (by rw [← HRUN.out]; exact prun_bad HS.out (ps_b_bad (HKT.out.trans HK0.out) HBK.out (of_decide_eq_false HBL.out)))
            go_wp2_with fail
            rw [HQ.out]
            exact rd_end (x := ⟨0, [], [], []⟩) (tv := .slice none 0 0) (pv := .slice none 0 0) (j := j) rfl rfl rfl HXr.out (XAt.nil _ 0 []) HBr.out (Nat.le_refl _) ⟨rfl, rfl, by decide⟩
          | true =>
            have HQ := Lib.hid ((prun_go (at_ := i) HS.out (ps_b_key (HKT.out.trans HK0.out) HBK.out (of_decide_eq_true HBL.out))).symm.trans HRUN.out)
            go_wp2_with fail
            go_roundw
            case rel => exact ⟨j + 1, 1, 0, sw, [], [], _, _, B, rfl, by go_num, HXr.out.set 1 _, HXO.out.store HXr.out 1 _, HBr.out.setCell (p := ⟨w.heap.size, 1, none⟩) (Nat.le_refl _) _, by omega, Nat.zero_le _, Nat.zero_le _, .inr (.inl ⟨rfl, rfl, rfl, rfl, rfl, rfl, HQ.out⟩)⟩
            case measure => simp [intOf]; omega
      · have e0 : ((kt : Int) != 0) = true := by simp; omega
        have e00 : ((kt : Int) == 0) = false := by simp; omega
        have i0 : (0 : Int) ≤ (kt : Int) := by omega
        have i1 : (kt : Int) < 10 := by omega
        have HK0 : Hid (kindS sw ≠ 0) := Lib.hid (by rw [HKT.out]; exact hk0)
        have k1 : 1 ≤ kt := by omega
        clear hk0
        obtain ⟨f0, f1, f2, f3⟩ := (HF.out.below HBr.out) kt hk9
        have lF := (HF.out.below HBr.out).lt
        obtain ⟨lb, hlb2⟩ : ∃ lb, labS kt = lb := ⟨_, rfl⟩
        rw [hlb2] at f1
        have HLB := Lib.hid hlb2
        clear hlb2
        cases lb with
        | true =>
          have HQ : Hid (R = .inr (j, 51)) := Lib.hid (by rw [← HRUN.out]; exact prun_bad HS.out (ps_b_lab HK0.out (by rw [HKT.out]; exact HLB.out)))
          go_wp2_with fail
          rw [HQ.out]
          exact rd_end (x := ⟨0, [], [], []⟩) (tv := .slice none 0 0) (pv := .slice none 0 0) (j := j) rfl rfl rfl HXr.out (XAt.nil _ 0 []) HBr.out (Nat.le_refl _) ⟨rfl, rfl, by decide⟩
        | false =>
          rw [formM_pos k1] at f3
          by_cases hm : mostS kt = 0
          · have em : ((mostS kt : Int) == 0) = true := by rw [hm]; rfl
            have HQ : Hid (R = .inl (⟨kt, [], [], []⟩, j + 1)) := Lib.hid (by
              rw [← HRUN.out]
              have := prun_done (at_ := i) HS.out (ps_b_one HK0.out (by rw [HKT.out]; exact HLB.out) (by rw [HKT.out]; exact hm))
              rw [HKT.out] at this
              exact this)
            clear hm
            go_wp2_with fail
            rw [HQ.out]
            exact rd_end (x := ⟨kt, [], [], []⟩) (tv := .slice none 0 0) (pv := .slice none 0 0) (j := j + 1) rfl rfl rfl (HXr.out.set 0 _) (XAt.nil _ kt []) (HBr.out.setCell (p := ⟨w.heap.size, 0, none⟩) (Nat.le_refl _) _) (Nat.le_refl _) ⟨rfl, rfl, rfl⟩
          · have em : ((mostS kt : Int) == 0) = false := by rw [beq_eq_false_iff_ne]; omega
            have HQ : Hid (prun i (.text ⟨kt, [], [], []⟩) (j + 1) (ws.drop (j + 1)) = R) := Lib.hid (by
              rw [← HRUN.out]
              have := prun_go (at_ := i) HS.out (ps_b_text HK0.out (by rw [HKT.out]; exact HLB.out) (by rw [HKT.out]; exact hm))
              rw [HKT.out] at this
              exact this.symm)
            have k7 : kt ≤ 7 := by
              rcases (show kt ≤ 7 ∨ kt = 8 ∨ kt = 9 by omega) with h | rfl | rfl
              · exact h
              · exact absurd rfl hm
              · exact absurd rfl hm
            clear hm
            go_wp2_with fail
            go_roundw
            case rel => exact ⟨j + 1, 2, kt, [], [], [], _, _, B, rfl, by go_num, HXr.out.set 0 _, HXO.out.store HXr.out 0 _, HBr.out.setCell (p := ⟨w.heap.size, 0, none⟩) (Nat.le_refl _) _, by omega, Nat.zero_le _, Nat.zero_le _, .inr (.inr (.inl ⟨rfl, rfl, rfl, kt, rfl, k1, k7, Nat.zero_le _, HQ.out⟩))⟩
            case measure => simp [intOf]; omega
    · have HRUN := Lib.hid hrun
      clear hrun HST
      have q0 := HXr.out.cell (i := 0) (v := .int .i64 0) rfl
      have q1 := HXr.out.cell (i := 1) (v := .string ⟨l.toArray⟩) rfl
      have q2 := HXr.out.cell (i := 2) (v := .slice none 0 0) rfl
      have q3 := HXr.out.cell (i := 3) (v := .slice none 0 0) rfl
      have fq := HXr.out.free
      have lxr := HXr.out.lt
      go_wp2_with fail
      refine (kindOf_any _ sw (HF.out.below HBr.out)).mono ?_
      rw [HKT.out]
      rintro e w2 ⟨rfl, hb2⟩
      have HB2 : Hid (Below wr.heap.size wr w2) := Lib.hid hb2
      clear hb2
      replace HXO := Lib.hid (HXO.out.below HB2.out)
      replace HXr := Lib.hid (HXr.out.below HB2.out lxr)
      replace HBr := Lib.hid (then_ HBr.out HB2.out)
      clear q0 q1 q2 q3 fq lxr
      have q0 := HXr.out.cell (i := 0) (v := .int .i64 0) rfl
      have q1 := HXr.out.cell (i := 1) (v := .string ⟨l.toArray⟩) rfl
      have q2 := HXr.out.cell (i := 2) (v := .slice none 0 0) rfl
      have q3 := HXr.out.cell (i := 3) (v := .slice none 0 0) rfl
      have fq := HXr.out.free
      have lxr := HXr.out.lt
      clear HB2 gj hlbr
      by_cases hk0 : kt = 0
      · have e0 : ((kt : Int) != 0) = false := by rw [hk0]; rfl
        have e00 : ((kt : Int) == 0) = true := by rw [hk0]; rfl
        have HK0 := Lib.hid hk0
        clear hk0
        have HQ : Hid (R = .inr (j, 50)) := Lib.hid (by rw [← HRUN.out]; exact prun_bad HS.out (ps_k_kw (HKT.out.trans HK0.out)))
        go_wp2_with fail
        rw [HQ.out]
        exact rd_end (x := ⟨0, [], [], []⟩) (tv := .slice none 0 0) (pv := .slice none 0 0) (j := j) rfl rfl rfl HXr.out (XAt.nil _ 0 []) HBr.out (Nat.le_refl _) ⟨rfl, rfl, by decide⟩
      · have e0 : ((kt : Int) != 0) = true := by simp; omega
        have e00 : ((kt : Int) == 0) = false := by simp; omega
        have i0 : (0 : Int) ≤ (kt : Int) := by omega
        have i1 : (kt : Int) < 10 := by omega
        have HK0 : Hid (kindS sw ≠ 0) := Lib.hid (by rw [HKT.out]; exact hk0)
        have k1 : 1 ≤ kt := by omega
        clear hk0
        obtain ⟨f0, f1, f2, f3⟩ := (HF.out.below HBr.out) kt hk9
        have lF := (HF.out.below HBr.out).lt
        obtain ⟨lb, hlb2⟩ : ∃ lb, labS kt = lb := ⟨_, rfl⟩
        rw [hlb2] at f1
        have HLB := Lib.hid hlb2
        clear hlb2
        cases lb with
        | false =>
          have HQ : Hid (R = .inr (i, 51)) := Lib.hid (by rw [← HRUN.out]; exact prun_bad HS.out (ps_k_bad HK0.out (by rw [HKT.out]; exact HLB.out)))
          go_wp2_with fail
          rw [HQ.out]
          exact rd_end (x := ⟨0, [], [], []⟩) (tv := .slice none 0 0) (pv := .slice none 0 0) (j := i) rfl rfl rfl HXr.out (XAt.nil _ 0 []) HBr.out (Nat.le_refl _) ⟨rfl, rfl, by decide⟩
        | true =>
          obtain ⟨m0, m1, m2⟩ := lab_le HLB.out
          have HQ : Hid (prun i (.text ⟨kt, l, [], []⟩) (j + 1) (ws.drop (j + 1)) = R) := Lib.hid (by
            rw [← HRUN.out]
            have := prun_go (at_ := i) HS.out (ps_k_text (l := l) HK0.out (by rw [HKT.out]; exact HLB.out))
            rw [HKT.out] at this
            exact this.symm)
          clear m0
          go_wp2_with fail
          go_roundw
          case rel => exact ⟨j + 1, 2, kt, l, [], [], _, _, B, rfl, by go_num, HXr.out.set 0 _, HXO.out.store HXr.out 0 _, HBr.out.setCell (p := ⟨w.heap.size, 0, none⟩) (Nat.le_refl _) _, by omega, Nat.zero_le _, Nat.zero_le _, .inr (.inr (.inl ⟨rfl, rfl, rfl, kt, rfl, m1, m2, Nat.zero_le _, HQ.out⟩))⟩
          case measure => simp [intOf]; omega
    · have HRUN := Lib.hid hrun
      obtain ⟨⟨T1, d1, rfl⟩, _⟩ := HXO.out.form
      clear hrun HST
      have q0 := HXr.out.cell (i := 0) (v := .int .i64 (k : Nat)) rfl
      have q1 := HXr.out.cell (i := 1) (v := .string ⟨l.toArray⟩) rfl
      have q2 := HXr.out.cell (i := 2) (v := .slice T1 tx.length d1) rfl
      have q3 := HXr.out.cell (i := 3) (v := .slice none 0 0) rfl
      have fq := HXr.out.free
      have lxr := HXr.out.lt
      go_wp2_with fail
      refine (kindOf_any _ sw (HF.out.below HBr.out)).mono ?_
      rw [HKT.out]
      rintro e w2 ⟨rfl, hb2⟩
      have HB2 : Hid (Below wr.heap.size wr w2) := Lib.hid hb2
      clear hb2
      replace HXO := Lib.hid (HXO.out.below HB2.out)
      replace HXr := Lib.hid (HXr.out.below HB2.out lxr)
      replace HBr := Lib.hid (then_ HBr.out HB2.out)
      clear q0 q1 q2 q3 fq lxr
      have q0 := HXr.out.cell (i := 0) (v := .int .i64 (k : Nat)) rfl
      have q1 := HXr.out.cell (i := 1) (v := .string ⟨l.toArray⟩) rfl
      have q2 := HXr.out.cell (i := 2) (v := .slice T1 tx.length d1) rfl
      have q3 := HXr.out.cell (i := 3) (v := .slice none 0 0) rfl
      have fq := HXr.out.free
      have lxr := HXr.out.lt
      clear HB2 gj hlbr
      obtain ⟨f0, f1, f2, f3⟩ := (HF.out.below HBr.out) k (by omega)
      have lF := (HF.out.below HBr.out).lt
      rw [formL_pos n1] at f2
      rw [formM_pos n1] at f3
      have ht200 := mostS_le k
      have i0 : (0 : Int) ≤ (k : Int) := by omega
      have i1 : (k : Int) < 10 := by omega
      obtain ⟨u0, hu0⟩ : ∃ u, kwN k = u := ⟨_, rfl⟩
      rw [hu0] at f0
      obtain ⟨lk, hlk⟩ : ∃ u, labS k = u := ⟨_, rfl⟩
      rw [hlk] at f1
      clear hu0 hlk
      have k20 : ((2 : Int) == 0) = false := rfl
      go_upto_region 28 with fail
      obtain ⟨W3, hW3⟩ : ∃ W3, W3 = w2.alloc (.cells #[.string ⟨u0.toArray⟩, .bool lk, .int .i64 (leastS k : Nat), .int .i64 (mostS k : Nat)] 126) := ⟨_, rfl⟩
      rw [← hW3]
      have HB3a : Hid (Below w2.heap.size w2 W3) := Lib.hid (by rw [hW3]; exact new_ (Below.refl _ _) _)
      have HFr : Hid (Row W3 w2.heap.size 126 #[.string ⟨u0.toArray⟩, .bool lk, .int .i64 (leastS k : Nat), .int .i64 (mostS k : Nat)]) := Lib.hid (by rw [hW3]; exact Row.new _ _ _)
      have HGO : Hid (w.heap.size < w2.heap.size) := Lib.hid lxr
      clear hW3
      replace HXO := Lib.hid (HXO.out.below HB3a.out)
      replace HXr := Lib.hid (HXr.out.below HB3a.out lxr)
      replace HBr := Lib.hid (then_ HBr.out HB3a.out)
      clear f0 f1 f2 f3 lF
      clear q0 q1 q2 q3 fq lxr
      have q0 := HXr.out.cell (i := 0) (v := .int .i64 (k : Nat)) rfl
      have q1 := HXr.out.cell (i := 1) (v := .string ⟨l.toArray⟩) rfl
      have q2 := HXr.out.cell (i := 2) (v := .slice T1 tx.length d1) rfl
      have q3 := HXr.out.cell (i := 3) (v := .slice none 0 0) rfl
      have fq := HXr.out.free
      have lxr := HXr.out.lt
      have p2 := HFr.out.cell (i := 2) (v := .int .i64 (leastS k : Nat)) rfl
      have p3 := HFr.out.cell (i := 3) (v := .int .i64 (mostS k : Nat)) rfl
      have lF := HFr.out.lt
      have hne := HGO.out
      clear HB3a
      by_cases hend : sw = [36, 46] ∨ sw = [36, 61] ∧ ((k : Nat) : Int) = 7
      · by_cases hs : tx.length < leastS k
        · have e29 : decide ((tx.length : Int) < (leastS k : Nat)) = true := decide_eq_true (by omega)
          have e30 : decide (tx.length < leastS k) = true := decide_eq_true hs
          have HQ : Hid (R = .inr (j, 53)) := Lib.hid (by rw [← HRUN.out]; exact prun_bad HS.out (ps_t_short hend hs))
          clear hs
          rcases hend with rfl | ⟨rfl, h7⟩
          · go_wp2_with fail
            rw [HQ.out]
            exact rd_end (x := ⟨0, [], [], []⟩) (tv := .slice none 0 0) (pv := .slice none 0 0) (j := j) rfl rfl rfl HXr.out (XAt.nil _ 0 []) HBr.out (Nat.le_refl _) ⟨rfl, rfl, by decide⟩
          · have e7 : ((k : Int) == 7) = true := by simp; omega
            have H7 := Lib.hid h7
            clear h7
            go_wp2_with fail
            rw [HQ.out]
            exact rd_end (x := ⟨0, [], [], []⟩) (tv := .slice none 0 0) (pv := .slice none 0 0) (j := j) rfl rfl rfl HXr.out (XAt.nil _ 0 []) HBr.out (Nat.le_refl _) ⟨rfl, rfl, by decide⟩
        · have e29 : decide ((tx.length : Int) < (leastS k : Nat)) = false := decide_eq_false (by omega)
          have e30 : decide (tx.length < leastS k) = false := decide_eq_false hs
          rcases hend with rfl | ⟨rfl, h7⟩
          · by_cases h7 : k = 7
            · have e7 : ((k : Int) == 7) = true := by rw [h7]; rfl
              have HQ : Hid (R = .inr (j, 50)) := Lib.hid (by rw [← HRUN.out]; exact prun_bad HS.out (ps_t_noeq rfl (by show (k : Int) = 7; rw [h7]; rfl) hs))
              have H7 := Lib.hid h7
              clear h7 hs
              go_wp2_with fail
              rw [HQ.out]
              exact rd_end (x := ⟨0, [], [], []⟩) (tv := .slice none 0 0) (pv := .slice none 0 0) (j := j) rfl rfl rfl HXr.out (XAt.nil _ 0 []) HBr.out (Nat.le_refl _) ⟨rfl, rfl, by decide⟩
            · have e7 : ((k : Int) == 7) = false := by simp; omega
              have HQ : Hid (R = .inl (⟨k, l, tx, []⟩, j + 1)) := Lib.hid (by rw [← HRUN.out]; exact prun_done HS.out (ps_t_done rfl (by show ((k : Int) ≠ 7); omega) hs))
              clear h7 hs
              go_wp2_with fail
              rw [HQ.out]
              exact rd_end (x := ⟨k, l, tx, []⟩) (tv := .slice T1 tx.length d1) (pv := .slice none 0 0) (j := j + 1) rfl rfl rfl HXr.out HXO.out.at_ HBr.out (Nat.le_refl _) ⟨rfl, rfl, rfl⟩
          · have e7 : ((k : Int) == 7) = true := by simp; omega
            have HQ := Lib.hid ((prun_go (at_ := i) HS.out (ps_t_proof rfl h7 hs)).symm.trans HRUN.out)
            have H7 : Hid ((k : Int) = 7) := Lib.hid h7
            clear h7 hs
            go_wp2_with fail
            go_roundw
            case rel => exact ⟨j + 1, 3, k, l, tx, [], _, _, W3.heap.size, rfl, by go_num, HXr.out, HXO.out.later, HBr.out, by omega, by omega, Nat.zero_le _, .inr (.inr (.inr ⟨rfl, H7.out, HXO.out.blk, by have := HQ.out; rw [H7.out] at this; exact this⟩))⟩
            case measure => simp [intOf]; omega
      · obtain ⟨h46, h61⟩ := not_or.1 hend
        have b46 : (sw == [36, 46]) = false := by simpa using h46
        obtain ⟨b61, hb61⟩ : ∃ b, (sw == [36, 61]) = b := ⟨_, rfl⟩
        have e7 : b61 = true → ((k : Int) == 7) = false := by
          rintro rfl
          rw [beq_eq_false_iff_ne]
          exact fun h => h61 ⟨by simpa using hb61, h⟩
        have HEND := Lib.hid hend
        clear h46 h61 hend
        obtain ⟨bk, hbk⟩ : ∃ bk, isKw sw = bk := ⟨_, rfl⟩
        have HBK := Lib.hid hbk
        clear hbk
        cases b61
        all_goals
          first
          | (have e71 := e7 rfl)
          | (have e71 : True := trivial)
          clear e7
          go_wp2_with fail
          refine (isKw_any _ sw).mono ?_
          rw [HBK.out]
          rintro e w3 ⟨rfl, hb3⟩
          have HB3 : Hid (Below W3.heap.size W3 w3) := Lib.hid hb3
          replace HFr := Lib.hid (HFr.out.below hb3 HFr.out.lt)
          clear hb3
          replace HXO := Lib.hid (HXO.out.below HB3.out)
          replace HXr := Lib.hid (HXr.out.below HB3.out lxr)
          replace HBr := Lib.hid (then_ HBr.out HB3.out)
          clear p2 p3 lF
          clear q0 q1 q2 q3 fq lxr
          have q0 := HXr.out.cell (i := 0) (v := .int .i64 (k : Nat)) rfl
          have q1 := HXr.out.cell (i := 1) (v := .string ⟨l.toArray⟩) rfl
          have q2 := HXr.out.cell (i := 2) (v := .slice T1 tx.length d1) rfl
          have q3 := HXr.out.cell (i := 3) (v := .slice none 0 0) rfl
          have fq := HXr.out.free
          have lxr := HXr.out.lt
          cases bk with
          | true =>
            have HQ : Hid (R = .inr (j, 50)) := Lib.hid (by rw [← HRUN.out]; exact prun_bad HS.out (ps_t_kw HEND.out HBK.out))
            go_wp2_with fail
            rw [HQ.out]
            exact rd_end (x := ⟨0, [], [], []⟩) (tv := .slice none 0 0) (pv := .slice none 0 0) (j := j) rfl rfl rfl HXr.out (XAt.nil _ 0 []) HBr.out (Nat.le_refl _) ⟨rfl, rfl, by decide⟩
          | false =>
            obtain ⟨bs, hbs⟩ : ∃ bs, symB sw = bs := ⟨_, rfl⟩
            have HBS := Lib.hid hbs
            clear hbs
            go_wp2_with fail
            refine (isSym_any _ sw).mono ?_
            rw [HBS.out]
            rintro e w4 ⟨rfl, hb4⟩
            have HB4 : Hid (Below w3.heap.size w3 w4) := Lib.hid hb4
            replace HFr := Lib.hid (HFr.out.below hb4 HFr.out.lt)
            clear hb4
            replace HXO := Lib.hid (HXO.out.below HB4.out)
            replace HXr := Lib.hid (HXr.out.below HB4.out lxr)
            replace HBr := Lib.hid (then_ HBr.out HB4.out)
            clear q0 q1 q2 q3 fq lxr
            have q0 := HXr.out.cell (i := 0) (v := .int .i64 (k : Nat)) rfl
            have q1 := HXr.out.cell (i := 1) (v := .string ⟨l.toArray⟩) rfl
            have q2 := HXr.out.cell (i := 2) (v := .slice T1 tx.length d1) rfl
            have q3 := HXr.out.cell (i := 3) (v := .slice none 0 0) rfl
            have fq := HXr.out.free
            have lxr := HXr.out.lt
            have p3 := HFr.out.cell (i := 3) (v := .int .i64 (mostS k : Nat)) rfl
            have lF := HFr.out.lt
            cases bs with
            | false =>
              have HQ : Hid (R = .inr (j, 52)) := Lib.hid (by rw [← HRUN.out]; exact prun_bad HS.out (ps_t_sym HEND.out HBK.out (of_decide_eq_false HBS.out)))
              go_wp2_with fail
              rw [HQ.out]
              exact rd_end (x := ⟨0, [], [], []⟩) (tv := .slice none 0 0) (pv := .slice none 0 0) (j := j) rfl rfl rfl HXr.out (XAt.nil _ 0 []) HBr.out (Nat.le_refl _) ⟨rfl, rfl, by decide⟩
            | true =>
              by_cases hf : tx.length = mostS k
              · have ef : ((tx.length : Int) == (mostS k : Int)) = true := by rw [hf]; simp
                have ef2 : (tx.length == mostS k) = true := by simpa using hf
                have HQ : Hid (R = .inr (j, 53)) := Lib.hid (by rw [← HRUN.out]; exact prun_bad HS.out (ps_t_full HEND.out HBK.out (of_decide_eq_true HBS.out) hf))
                clear hf ht2
                go_wp2_with fail
                rw [HQ.out]
                exact rd_end (x := ⟨0, [], [], []⟩) (tv := .slice none 0 0) (pv := .slice none 0 0) (j := j) rfl rfl rfl HXr.out (XAt.nil _ 0 []) HBr.out (Nat.le_refl _) ⟨rfl, rfl, by decide⟩
              · have ef : ((tx.length : Int) == (mostS k : Int)) = false := by rw [beq_eq_false_iff_ne]; omega
                have ef2 : (tx.length == mostS k) = false := by simpa using hf
                have HQ := Lib.hid ((prun_go (at_ := i) HS.out (ps_t_add HEND.out HBK.out (of_decide_eq_true HBS.out) hf)).symm.trans HRUN.out)
                have hm3 : tx.length + 1 ≤ mostS k := by omega
                clear hf ht2
                obtain ⟨i9, ki, k0, kk1, k2⟩ := info_parts infoStr
                have HOA : Hid ((w4.alloc (.cells #[.string ⟨sw.toArray⟩] 9)).ownsRow w.heap.size 9 1 (.slice T1 tx.length d1) tx.length (strC tx)) := Lib.hid (ca_own_alloc HXO.out.t _)
                have hB1 : Hid (tx.length + 1 ≤ maxLen) := Lib.hid (by unfold maxLen; omega)
                have hB2 : Hid ((tx.length + 1) * 16 ≤ 140737488355328) := Lib.hid (by omega)
                have hB3 : Hid (w.heap.size ≤ (w4.alloc (.cells #[.string ⟨sw.toArray⟩] 9)).heap.size) := Lib.hid (by simp; omega)
                go_wp2_with (at_builtin; (refine wpList_append_own _ rfl (.tmp 134) (.tmp 136) 22 rfl w.heap.size 9 i9 (.string ⟨#[]⟩) 1 16 Tryd.underlying22 ki k0 kk1 k2 rfl (by decide) (.slice T1 tx.length d1) tx.length (strC tx) (by rfl) HOA.out ⟨w4.heap.size, 0, none⟩ 1 1 [.string ⟨sw.toArray⟩] rfl rfl (cells_of' _ _ _ _ rfl rfl) (by simp [Value.oneCell']) hB1.out hB2.out hB3.out ?_; intro v5 w5 ho5 hg5 _; have HAP := Lib.hid (app_text HXr.out HXO.out HBr.out ho5 hg5); clear ho5 hg5; obtain ⟨⟨V5, vc5, rfl⟩, hr5, ho5, hb5⟩ := HAP.out; have HR5 := Lib.hid hr5; have HO5 := Lib.hid ho5; have HB5 := Lib.hid hb5; clear HAP hr5 ho5 hb5; have r2 := HR5.out.cell (i := 2) (v := .slice T1 tx.length d1) rfl; have lr5 := HR5.out.lt; have fr5 := HR5.out.free))
                go_roundw
                case rel => exact ⟨j + 1, 2, k, l, tx ++ [sw], [], _, _, B, rfl, by go_num, HR5.out.set 2 _, HO5.out.store HR5.out 2 _, HB5.out.setCell (p := ⟨w.heap.size, 2, none⟩) (Nat.le_refl _) _, by omega, by simp; omega, Nat.zero_le _, .inr (.inr (.inl ⟨rfl, rfl, rfl, k, rfl, n1, n2, by simpa using hm3, HQ.out⟩))⟩
                case measure => simp [intOf]; omega
    · have HRUN := Lib.hid hrun
      have HTB := Lib.hid htb
      obtain ⟨⟨T1, d1, rfl⟩, P1, d2, rfl⟩ := HXO.out.form
      clear hrun HST htb
      have q0 := HXr.out.cell (i := 0) (v := .int .i64 7) rfl
      have q1 := HXr.out.cell (i := 1) (v := .string ⟨l.toArray⟩) rfl
      have q2 := HXr.out.cell (i := 2) (v := .slice T1 tx.length d1) rfl
      have q3 := HXr.out.cell (i := 3) (v := .slice P1 px.length d2) rfl
      have fq := HXr.out.free
      have lxr := HXr.out.lt
      go_wp2_with fail
      refine (kindOf_any _ sw (HF.out.below HBr.out)).mono ?_
      rw [HKT.out]
      rintro e w2 ⟨rfl, hb2⟩
      have HB2 : Hid (Below wr.heap.size wr w2) := Lib.hid hb2
      clear hb2
      replace HXO := Lib.hid (HXO.out.below HB2.out)
      replace HXr := Lib.hid (HXr.out.below HB2.out lxr)
      replace HBr := Lib.hid (then_ HBr.out HB2.out)
      clear q0 q1 q2 q3 fq lxr
      have q0 := HXr.out.cell (i := 0) (v := .int .i64 7) rfl
      have q1 := HXr.out.cell (i := 1) (v := .string ⟨l.toArray⟩) rfl
      have q2 := HXr.out.cell (i := 2) (v := .slice T1 tx.length d1) rfl
      have q3 := HXr.out.cell (i := 3) (v := .slice P1 px.length d2) rfl
      have fq := HXr.out.free
      have lxr := HXr.out.lt
      clear HB2 gj hlbr
      by_cases hend : sw = [36, 46]
      · subst hend
        have HQ : Hid (R = .inl (⟨7, l, tx, px⟩, j + 1)) := Lib.hid (by rw [← HRUN.out]; exact prun_done HS.out (ps_p_done rfl))
        go_wp2_with fail
        rw [HQ.out]
        exact rd_end (x := ⟨7, l, tx, px⟩) (tv := .slice T1 tx.length d1) (pv := .slice P1 px.length d2) (j := j + 1) rfl rfl rfl HXr.out HXO.out.at_ HBr.out (Nat.le_refl _) ⟨rfl, rfl, rfl⟩
      have b46 : (sw == [36, 46]) = false := by simpa using hend
      have HEND := Lib.hid hend
      clear hend
      obtain ⟨bk, hbk⟩ : ∃ bk, isKw sw = bk := ⟨_, rfl⟩
      have HBK := Lib.hid hbk
      clear hbk
      go_wp2_with fail
      refine (isKw_any _ sw).mono ?_
      rw [HBK.out]
      rintro e w3 ⟨rfl, hb3⟩
      have HB3 : Hid (Below w2.heap.size w2 w3) := Lib.hid hb3
      clear hb3
      replace HXO := Lib.hid (HXO.out.below HB3.out)
      replace HXr := Lib.hid (HXr.out.below HB3.out lxr)
      replace HBr := Lib.hid (then_ HBr.out HB3.out)
      clear q0 q1 q2 q3 fq lxr
      have q0 := HXr.out.cell (i := 0) (v := .int .i64 7) rfl
      have q1 := HXr.out.cell (i := 1) (v := .string ⟨l.toArray⟩) rfl
      have q2 := HXr.out.cell (i := 2) (v := .slice T1 tx.length d1) rfl
      have q3 := HXr.out.cell (i := 3) (v := .slice P1 px.length d2) rfl
      have fq := HXr.out.free
      have lxr := HXr.out.lt
      cases bk with
      | true =>
        have HQ : Hid (R = .inr (j, 50)) := Lib.hid (by rw [← HRUN.out]; exact prun_bad HS.out (ps_p_kw HEND.out HBK.out))
        go_wp2_with fail
        rw [HQ.out]
        exact rd_end (x := ⟨0, [], [], []⟩) (tv := .slice none 0 0) (pv := .slice none 0 0) (j := j) rfl rfl rfl HXr.out (XAt.nil _ 0 []) HBr.out (Nat.le_refl _) ⟨rfl, rfl, by decide⟩
      | false =>
        obtain ⟨bp, hbp⟩ : ∃ bp, prfS sw = bp := ⟨_, rfl⟩
        have HBP := Lib.hid hbp
        clear hbp
        go_wp2_with fail
        refine (isProof_any _ sw).mono ?_
        rw [HBP.out]
        rintro e w4 ⟨rfl, hb4⟩
        have HB4 : Hid (Below w3.heap.size w3 w4) := Lib.hid hb4
        clear hb4
        replace HXO := Lib.hid (HXO.out.below HB4.out)
        replace HXr := Lib.hid (HXr.out.below HB4.out lxr)
        replace HBr := Lib.hid (then_ HBr.out HB4.out)
        clear q0 q1 q2 q3 fq lxr
        have q0 := HXr.out.cell (i := 0) (v := .int .i64 7) rfl
        have q1 := HXr.out.cell (i := 1) (v := .string ⟨l.toArray⟩) rfl
        have q2 := HXr.out.cell (i := 2) (v := .slice T1 tx.length d1) rfl
        have q3 := HXr.out.cell (i := 3) (v := .slice P1 px.length d2) rfl
        have fq := HXr.out.free
        have lxr := HXr.out.lt
        cases bp with
        | false =>
          have HQ : Hid (R = .inr (j, 54)) := Lib.hid (by rw [← HRUN.out]; exact prun_bad HS.out (ps_p_bad HEND.out HBK.out HBP.out))
          go_wp2_with fail
          rw [HQ.out]
          exact rd_end (x := ⟨0, [], [], []⟩) (tv := .slice none 0 0) (pv := .slice none 0 0) (j := j) rfl rfl rfl HXr.out (XAt.nil _ 0 []) HBr.out (Nat.le_refl _) ⟨rfl, rfl, by decide⟩
        | true =>
          have HQ := Lib.hid ((prun_go (at_ := i) HS.out (ps_p_add HEND.out HBK.out HBP.out)).symm.trans HRUN.out)
          obtain ⟨i9, ki, k0, kk1, k2⟩ := info_parts infoStr
          have hBl := HXO.out.lt
          have hBw := HXO.out.le
          have HOA : Hid ((w4.alloc (.cells #[.string ⟨sw.toArray⟩] 9)).ownsRow B 9 1 (.slice P1 px.length d2) px.length (strC px)) := Lib.hid (ca_own_alloc HXO.out.p _)
          have hB1 : Hid (px.length + 1 ≤ maxLen) := Lib.hid (by unfold maxLen; omega)
          have hB2 : Hid ((px.length + 1) * 16 ≤ 140737488355328) := Lib.hid (by omega)
          have hB3 : Hid (B ≤ (w4.alloc (.cells #[.string ⟨sw.toArray⟩] 9)).heap.size) := Lib.hid (by simp; omega)
          clear hBl hBw
          go_wp2_with (at_builtin; (refine wpList_append_own _ rfl (.tmp 156) (.tmp 158) 22 rfl B 9 i9 (.string ⟨#[]⟩) 1 16 Tryd.underlying22 ki k0 kk1 k2 rfl (by decide) (.slice P1 px.length d2) px.length (strC px) (by rfl) HOA.out ⟨w4.heap.size, 0, none⟩ 1 1 [.string ⟨sw.toArray⟩] rfl rfl (cells_of' _ _ _ _ rfl rfl) (by simp [Value.oneCell']) hB1.out hB2.out hB3.out ?_; intro v5 w5 ho5 hg5 _; have HAP := Lib.hid (app_proof HXr.out HXO.out HBr.out HTB.out ho5 hg5); clear ho5 hg5; obtain ⟨⟨V5, vc5, rfl⟩, hr5, ho5, hb5⟩ := HAP.out; have HR5 := Lib.hid hr5; have HO5 := Lib.hid ho5; have HB5 := Lib.hid hb5; clear HAP hr5 ho5 hb5; have r3 := HR5.out.cell (i := 3) (v := .slice P1 px.length d2) rfl; have lr5 := HR5.out.lt; have fr5 := HR5.out.free))
          go_roundw
          case rel => exact ⟨j + 1, 3, 7, l, tx, px ++ [sw], _, _, B, rfl, by go_num, HR5.out.set 3 _, HO5.out.store HR5.out 3 _, HB5.out.setCell (p := ⟨w.heap.size, 3, none⟩) (Nat.le_refl _) _, by omega, by omega, by simp; omega, .inr (.inr (.inr ⟨rfl, rfl, HTB.out, HQ.out⟩))⟩
          case measure => simp [intOf]; omega
end Go.Proofs.YtpmbfcogkoiogaaDoor
end
section
namespace Go.Proofs.YtpmbfcogkoiogaaDoor
open Go.RowKit
set_option maxRecDepth 100000 in
set_option maxHeartbeats 4000000 in
theorem parse_any (w : World) (v : Value) (ws : List (List UInt8)) (hv : Strs w v ws) (hF : FormsAt w) :
    Calls Tryd.prog 12 #[v] w (ParsePost w (parseS ws)) := by
  have HV := Lib.hid hv
  have HF := Lib.hid hF
  obtain ⟨A1, c1, rfl, hc1, hm1, hxx⟩ := hv.open_
  unfold maxLen at hm1
  clear hxx hF hv
  by_cases h8 : 8000 < ws.length
  · have e8 : decide ((8000 : Int) < (ws.length : Int)) = true := decide_eq_true (by omega)
    have HP : Hid (parseS ws = ([], 0, 4)) := Lib.hid (by unfold parseS; rw [if_pos h8])
    rw [HP.out]
    clear h8
    go_enter Tryd.func12, Tryd.ntmps12
    go_wp2
    refine bodyPost_ret (v := .tuple #[.slice none 0 0, .int .i64 0, .int .i64 4]) (by simp [results, Tryd.results12, go_sem]) rfl ?_
    exact ⟨_, rfl, Stms.nil _, Below.refl _ _⟩
  have e8 : decide ((8000 : Int) < (ws.length : Int)) = false := decide_eq_false (by omega)
  obtain ⟨R, hR⟩ : ∃ R, parseS ws = R := ⟨_, rfl⟩
  have HR : Hid (parseF ws (ws.length + 1) 0 [] = R) := Lib.hid (by rw [← hR]; unfold parseS; rw [if_neg h8])
  rw [hR]
  clear hR
  go_enter Tryd.func12, Tryd.ntmps12
  go_wp2
  go_loopw [5, 6] (fun v5 v6 wr => ParRel w ws R v5 v6 wr) (fun _ v6 _ => ws.length - (intOf v6).toNat)
  case atStart =>
    exact ⟨0, ws.length + 1, [], _, _, rfl, rfl, Nat.zero_le _, by omega, by simp, own_nil _ _ _ _, fun p h => (nomatch h), Below.refl _ _, HR.out⟩
  case round =>
    obtain ⟨i, f, ps, A, c, rfl, rfl, hi, hf, ho, hO, hps, hB, hP⟩ := hrel
    have HO := Lib.hid hO
    have HPS := Lib.hid hps
    have HB := Lib.hid hB
    have HP := Lib.hid hP
    clear hO hps hB hP
    obtain ⟨f, rfl⟩ : ∃ f', f = f' + 1 := ⟨f - 1, by omega⟩
    by_cases hlt : i < ws.length
    · have e1 : decide ((i : Int) < (ws.length : Int)) = true := decide_eq_true (by omega)
      by_cases h2 : ps.length = 2000
      · have e2 : ((ps.length : Int) == 2000) = true := by rw [h2]; rfl
        have HQ : Hid (R = ([], i, 8)) := Lib.hid (HP.out.symm.trans (parseF_full hlt (by simpa using h2)))
        clear h2
        go_wp2
        refine bodyPost_ret (v := .tuple #[.slice none 0 0, .int .i64 (i : Nat), .int .i64 8]) (by simp [results, Tryd.results12, go_sem]) rfl ?_
        rw [HQ.out]
        exact ⟨_, rfl, Stms.nil _, HB.out⟩
      · have e2 : ((ps.length : Int) == 2000) = false := by rw [beq_eq_false_iff_ne]; omega
        have HN : Hid ((ps.map (·.1)).length ≠ 2000) := Lib.hid (by simpa using h2)
        have h3 : ps.length + 1 ≤ 2000 := by omega
        clear h2
        go_wp2_with fail
        refine (read_any wr _ ws i (HV.out.below HB.out) hlt (by omega) (HF.out.below HB.out)).mono ?_
        rintro e w2 ⟨x, tv, pv, j, z, rfl, hx, hb2, hm⟩
        unfold stmV
        obtain ⟨⟨T1, d1, rfl⟩, P1, d2, rfl⟩ := hx.form
        have HX := Lib.hid hx
        have HB2 := Lib.hid hb2
        have HM := Lib.hid (read_inl hm)
        clear hx hb2 hm
        by_cases hz : z = 0
        · subst hz
          have HQ : Hid (readW ws i = .inl (x, j)) := Lib.hid (HM.out.elim (·.2) fun h => absurd rfl h.1)
          obtain ⟨hij, hjl⟩ := readW_le HQ.out hi
          have HR2 := Lib.hid ((parseF_go hlt HN.out HQ.out).symm.trans HP.out)
          obtain ⟨i0, ki, k0, k1, k2⟩ := info_parts infoStm
          have hz2 := HB2.out.size
          have hzB := HB.out.size
          clear HM HN HP HQ
          go_wp2_with (at_builtin; (refine wpList_append_own _ rfl (.tmp 32) (.tmp 34) 23 rfl w.heap.size 34 i0 (.agg #[.int .i64 0, .string ⟨#[]⟩, .slice none 0 0, .slice none 0 0]) 4 72 Tryd.underlying23 ki k0 k1 k2 rfl (by decide) (.slice A ps.length c) ps.length (ps.flatMap stmCells) (by rfl) (ca_own_alloc (ca_own_alloc (own_below HO.out HB2.out) _) _) ⟨w2.heap.size + 1, 0, none⟩ 1 1 [.int .i64 x.kind, .string ⟨x.label.toArray⟩, .slice T1 x.text.length d1, .slice P1 x.proof.length d2] rfl rfl (cells_of' _ _ _ _ rfl (by simp)) (by simp [Value.oneCell']) (by unfold maxLen; omega) (by omega) (by simp; omega) ?_; intro v3 w3 ho3 hg3 _; have HS := Lib.hid (par_app HO.out HPS.out HB.out HB2.out HX.out ho3 hg3); clear ho3 hg3))
          obtain ⟨ps', A', c', rfl, hl', e', ho', hx', hb3⟩ := HS.out
          have HE' := Lib.hid e'
          have HO' := Lib.hid ho'
          have HX' := Lib.hid hx'
          have HB3 := Lib.hid hb3
          clear HS e' ho' hx' hb3
          go_roundw
          case rel => exact ⟨j, f, ps', A', c', rfl, rfl, hjl, by omega, by omega, HO'.out, HX'.out, HB3.out, by rw [← HE'.out]; exact HR2.out⟩
          case measure => simp [intOf]; omega
        · have ez : (z != 0) = true := by simpa using hz
          have HQ : Hid (R = ([], j, z)) := Lib.hid (HP.out.symm.trans (parseF_bad hlt HN.out (HM.out.elim (fun h => absurd h.1 hz) (·.2))))
          clear hz HM
          go_wp2
          refine bodyPost_ret (v := .tuple #[.slice none 0 0, .int .i64 (j : Nat), .int .i64 z]) (by simp [results, Tryd.results12, go_sem]) rfl ?_
          rw [HQ.out]
          exact ⟨_, rfl, Stms.nil _, new_ (then_ HB.out HB2.out) _⟩
    · have e1 : decide ((i : Int) < (ws.length : Int)) = false := decide_eq_false (by omega)
      have HQ : Hid (R = (ps.map (·.1), 0, 0)) := Lib.hid (HP.out.symm.trans (parseF_end (by omega)))
      go_wp2
      refine bodyPost_ret (v := .tuple #[.slice A ps.length c, .int .i64 0, .int .i64 0]) (by simp [results, Tryd.results12, go_sem]) rfl ?_
      rw [HQ.out]
      exact ⟨_, rfl, StmsO.stms ⟨ps, rfl, HO.out, HPS.out⟩, HB.out⟩
end Go.Proofs.YtpmbfcogkoiogaaDoor
end
