/- The reference of statements: the one that begins with a word. (Printed by gen_laystmt.py.) The reference of statements: Parse. -/
import Derived.Test.YtpmbfcogkoiogaaDoorLayRefA
import Derived.Test.YtpmbfcogkoiogaaDoorLayMemA
import Derived.Test.YtpmbfcogkoiogaaDoorLayLA
import Derived.Deep.CutRange
import Derived.Deep.RegionHeld3
import Derived.Deep.DrawnRows
import Derived.Deep.QuietTactic
import Derived.BigQuiet
section
namespace Go.Proofs.YtpmbfcogkoiogaaDoor
open Go.RowKit
theorem results_row_tmp2 {P : Program} {fn : Func} {p u v : Tmp} {ty : TypeId} (h : fn.results = #[.cell p ty, .tmp u, .tmp v]) (tmps : Array Value) (w : World) (g : Nat) (t : TypeId) (cs : Array Value) (d : TypeDesc)
    (hp : tmps.getD p undef = .pointer (some ⟨g, 0, none⟩)) (hg : Row w g t cs) (hu : P.underlying ty = some d) (hd : (match d with | .struct _ | .array _ _ => true | _ => false) = true) (hi : (P.info? ty).map (·.size) = some cs.size) :
    (results fn tmps).run P w = .ok (.tuple #[.agg cs, tmps.getD u undef, tmps.getD v undef]) w := by
  have hp' : tmps[p]?.getD undef = .pointer (some ⟨g, 0, none⟩) := by simpa using hp
  simp [results, h, hp', asAddr, Result.andThen, run_loadVar_row w g t ty cs (0, 0) d hg hu hd hi]
theorem stm_end {W w : World} {RB j : Nat} {z : Int} {tmps : Array Value} {r : (StmD × Nat) ⊕ (Nat × Int)} {x : StmD} {tv pv a0 a1 a2 a3 : Value} (h4 : tmps.getD 4 undef = .pointer (some ⟨RB, 0, none⟩)) (h5 : tmps.getD 5 undef = .int .i64 (j : Nat)) (h6 : tmps.getD 6 undef = .int .i64 z)
    (hr : Row w RB 34 #[a0, a1, a2, a3]) (hx : XAt w tv pv x) (hb : Below W.heap.size W w) (hge : W.heap.size ≤ RB) (hm : match r with | .inl (y, i) => x = y ∧ j = i ∧ z = 0 | .inr (i, c) => j = i ∧ z = c ∧ z ≠ 0) :
    bodyPost Tryd.prog Tryd.f38 (StmtPost W r) .ret { tmps := tmps, defers := [] } (setX w RB x.kind x.label tv pv) := by
  refine bodyPost_ret (v := .tuple #[stmV x.kind x.label tv pv, .int .i64 (j : Nat), .int .i64 z]) ?_ ?_ ?_
  · rw [results_row_tmp2 Tryd.results38 tmps _ RB _ _ _ h4 (setX_row hr) Tryd.underlying34 rfl (by kernel_rfl), h5, h6]
    rfl
  · rfl
  · exact ⟨x, tv, pv, j, z, rfl, setX_at hx hr, setX_below hb hge, hm⟩
theorem lab_zero : labS 0 = false := rfl
theorem lab_le {k : Nat} (h : labS k = true) : mostS k ≠ 0 ∧ 1 ≤ k ∧ k ≤ 7 := by
  unfold labS at h
  simp only [Bool.or_eq_true, beq_iff_eq] at h
  unfold mostS
  refine ⟨?_, by omega, by omega⟩
  split
  · decide
  · rw [if_neg (by omega)]; decide
set_option maxRecDepth 100000 in
set_option maxHeartbeats 8000000 in
theorem ref_statement (w : World) (v : Value) (ws : List (List UInt8)) (i : Nat) (hv : Strs w v ws) (hi : i < ws.length) (hN : ws.length ≤ 1000000) (hsz : ∀ u ∈ ws, u.length ≤ maxLen) :
    Calls Tryd.prog 38 #[v, .int .i64 (i : Nat)] w (StmtPost w (readW ws i)) := by
  obtain ⟨A1, c1, rfl, hc1, hm1, hxx⟩ := hv.open_
  obtain ⟨W1, hW1⟩ : ∃ W1, W1 = (w.alloc (.cells #[.int .i64 0, .string ⟨#[]⟩, .slice none 0 0, .slice none 0 0] 34)).alloc (.cells #[.int .i64 0, .string ⟨#[]⟩, .slice none 0 0, .slice none 0 0] 34) := ⟨_, rfl⟩
  have hb1 : Below w.heap.size w W1 := by rw [hW1]; exact new_ (new_ (Below.refl _ _) _) _
  have rR : Row W1 w.heap.size 34 #[.int .i64 0, .string ⟨#[]⟩, .slice none 0 0, .slice none 0 0] := by rw [hW1]; exact (Row.new _ _ _).alloc _
  have rX : Row W1 (w.heap.size + 1) 34 #[.int .i64 0, .string ⟨#[]⟩, .slice none 0 0, .slice none 0 0] := by rw [hW1]; exact Row.new' _ _ _ (by simp)
  obtain ⟨R, hR⟩ : ∃ R, readW ws i = R := ⟨_, rfl⟩
  rw [hR]
  obtain ⟨t, ht⟩ : ∃ t, ws[i]? = some t := ⟨_, List.getElem?_eq_getElem hi⟩
  obtain ⟨b, o, rfl, g0⟩ := hxx i t ht
  have htl := hsz t (List.mem_of_getElem? ht)
  have hlb : b < w.heap.size := block_lt_of_cell g0
  have HV := Lib.hid hv
  have HXX := Lib.hid hxx
  have HSZ := Lib.hid hsz
  have HR := Lib.hid hR
  have HT := Lib.hid ht
  have HB1 := Lib.hid hb1
  have HRR := Lib.hid rR
  have HRX := Lib.hid rX
  have HW1 := Lib.hid hW1
  have HTL := Lib.hid htl
  have i0 : (0 : Int) ≤ (i : Int) := by omega
  have i1 : (i : Int) < (ws.length : Int) := by omega
  clear hv hxx hsz hR ht hb1 rR rX hW1 htl
  go_enter Tryd.func38, Tryd.ntmps38
  go_wp2_with fail
  rw [← HW1.out]
  refine (ref_kindOf W1 t).mono ?_
  rintro e w2 ⟨rfl, hb2⟩
  have HB2 := Lib.hid (then_ HB1.out hb2)
  have HR2 := Lib.hid (HRR.out.below hb2 HRR.out.lt)
  have HX2 := Lib.hid (HRX.out.below hb2 HRX.out.lt)
  have lR := HR2.out.lt
  have lX := HX2.out.lt
  have hne : w.heap.size + 1 ≠ w.heap.size := by omega
  have hne' : w.heap.size ≠ w.heap.size + 1 := by omega
  clear hb2 g0
  have q0 := HX2.out.cell (i := 0) (v := .int .i64 0) rfl
  have q1 := HX2.out.cell (i := 1) (v := .string ⟨#[]⟩) rfl
  have q2 := HX2.out.cell (i := 2) (v := .slice none 0 0) rfl
  have q3 := HX2.out.cell (i := 3) (v := .slice none 0 0) rfl
  have y0 := HR2.out.cell (i := 0) (v := .int .i64 0) rfl
  have y1 := HR2.out.cell (i := 1) (v := .string ⟨#[]⟩) rfl
  have y2 := HR2.out.cell (i := 2) (v := .slice none 0 0) rfl
  have y3 := HR2.out.cell (i := 3) (v := .slice none 0 0) rfl
  have fq := HX2.out.free
  have fy := HR2.out.free
  go_wp2_with fail
  refine (ref_labelled w2 _).mono ?_
  rintro e w3 ⟨rfl, rfl⟩
  have hk9 := kindS_le t
  obtain ⟨kt, hkt⟩ : ∃ kt, kindS t = kt := ⟨_, rfl⟩
  rw [hkt] at hk9
  rw [hkt]
  have HKT := Lib.hid hkt
  clear hkt
  obtain ⟨lb, hlb2⟩ : ∃ lb, labS kt = lb := ⟨_, rfl⟩
  rw [hlb2]
  have HLB := Lib.hid hlb2
  clear hlb2
  by_cases hk0 : kt = 0
  · subst hk0
    obtain rfl : lb = false := by rw [← HLB.out]; rfl
    go_wp2_with fail
    refine (ref_isKw w2 t).mono ?_
    obtain ⟨bk, hbk⟩ : ∃ bk, isKw t = bk := ⟨_, rfl⟩
    rw [hbk]
    have HBK := Lib.hid hbk
    clear hbk
    rintro e w3 ⟨rfl, hb3⟩
    have HB3 := Lib.hid (then_ HB2.out hb3)
    have HR3 := Lib.hid (HR2.out.below hb3 lR)
    have HX3 := Lib.hid (HX2.out.below hb3 lX)
    have lR3 := HR3.out.lt
    have lX3 := HX3.out.lt
    clear q0 q1 q2 q3 y0 y1 y2 y3 fq fy hb3
    have q0 := HX3.out.cell (i := 0) (v := .int .i64 0) rfl
    have q1 := HX3.out.cell (i := 1) (v := .string ⟨#[]⟩) rfl
    have q2 := HX3.out.cell (i := 2) (v := .slice none 0 0) rfl
    have q3 := HX3.out.cell (i := 3) (v := .slice none 0 0) rfl
    have y0 := HR3.out.cell (i := 0) (v := .int .i64 0) rfl
    have y1 := HR3.out.cell (i := 1) (v := .string ⟨#[]⟩) rfl
    have y2 := HR3.out.cell (i := 2) (v := .slice none 0 0) rfl
    have y3 := HR3.out.cell (i := 3) (v := .slice none 0 0) rfl
    have fq := HX3.out.free
    have fy := HR3.out.free
    cases bk with
    | true =>
      have HQ : Hid (R = .inr (i, 50)) := Lib.hid (by rw [← HR.out]; exact prun_bad HT.out (ps_b_kw HKT.out HBK.out))
      go_wp2
      rw [HQ.out]
      exact stm_end (x := ⟨0, [], [], []⟩) (tv := .slice none 0 0) (pv := .slice none 0 0) rfl rfl rfl HR3.out (XAt.nil w3 0 []) HB3.out (Nat.le_refl _) ⟨rfl, rfl, by decide⟩
    | false =>
      go_wp2_with fail
      refine (ref_isLab w3 t HTL.out).mono ?_
      obtain ⟨bl, hbl⟩ : ∃ bl, labB t = bl := ⟨_, rfl⟩
      rw [hbl]
      have HBL := Lib.hid hbl
      clear hbl
      rintro e w4 ⟨rfl, rfl⟩
      cases bl with
      | false =>
        have HQ : Hid (R = .inr (i, 51)) := Lib.hid (by rw [← HR.out]; exact prun_bad HT.out (ps_b_bad HKT.out HBK.out (of_decide_eq_false HBL.out)))
        go_wp2
        rw [HQ.out]
        exact stm_end (x := ⟨0, [], [], []⟩) (tv := .slice none 0 0) (pv := .slice none 0 0) rfl rfl rfl HR3.out (XAt.nil w3 0 []) HB3.out (Nat.le_refl _) ⟨rfl, rfl, by decide⟩
      | true =>
        have hgo := prun_go (at_ := i) HT.out (ps_b_key HKT.out HBK.out (of_decide_eq_true HBL.out))
        have HGO := Lib.hid (hgo.symm.trans HR.out)
        clear hgo
        by_cases h1 : i + 1 < ws.length
        · have e1 : decide ((ws.length : Int) ≤ (i : Int) + 1) = false := decide_eq_false (by omega)
          obtain ⟨u, hu⟩ : ∃ u, ws[i + 1]? = some u := ⟨_, List.getElem?_eq_getElem h1⟩
          have g1 : w3.cell? ⟨b, o + (i + 1), none⟩ = some (.string ⟨u.toArray⟩) := by
            obtain ⟨b', o', e', g'⟩ := HXX.out (i + 1) u hu
            cases e'
            exact (HB3.out.cell (p := ⟨b, o + (i + 1), none⟩) hlb).trans g'
          have hlb3 : b < w3.heap.size := Nat.lt_of_lt_of_le hlb HB3.out.size
          have i2 : (0 : Int) ≤ (i : Int) + 1 := by omega
          have i3 : (i : Int) + 1 < (ws.length : Int) := by omega
          have hnb : b ≠ w.heap.size + 1 := by omega
          have HU := Lib.hid hu
          clear hu
          go_wp2_with fail
          refine (ref_kindOf _ u).mono ?_
          obtain ⟨ku, hku⟩ : ∃ ku, kindS u = ku := ⟨_, rfl⟩
          rw [hku]
          have hku9 : ku ≤ 9 := by rw [← hku]; exact kindS_le u
          have HKU := Lib.hid hku
          clear hku
          rintro e w5 ⟨rfl, hb5⟩
          have HB5 := Lib.hid (then_ ((HB3.out.setCell (p := ⟨w.heap.size + 1, 1, none⟩) (Nat.le_succ _) (.string ⟨t.toArray⟩))) hb5)
          have HR5 := Lib.hid ((HR3.out.other (p := ⟨w.heap.size + 1, 1, none⟩) hne' (.string ⟨t.toArray⟩)).below hb5 (by simpa [World.setCell] using lR3))
          have hx5 := (HX3.out.set 1 (.string ⟨t.toArray⟩)).below hb5 (by simpa [World.setCell] using lX3)
          have HX5 := Lib.hid (show Row w5 (w.heap.size + 1) 34 #[.int .i64 0, .string ⟨t.toArray⟩, .slice none 0 0, .slice none 0 0] from hx5)
          clear q0 q1 q2 q3 y0 y1 y2 y3 fq fy hb5 g1 hlb3 hx5 lR3 lX3
          have lR5 := HR5.out.lt
          have lX5 := HX5.out.lt
          have q0 := HX5.out.cell (i := 0) (v := .int .i64 0) rfl
          have q1 := HX5.out.cell (i := 1) (v := .string ⟨t.toArray⟩) rfl
          have q2 := HX5.out.cell (i := 2) (v := .slice none 0 0) rfl
          have q3 := HX5.out.cell (i := 3) (v := .slice none 0 0) rfl
          have y0 := HR5.out.cell (i := 0) (v := .int .i64 0) rfl
          have y1 := HR5.out.cell (i := 1) (v := .string ⟨#[]⟩) rfl
          have y2 := HR5.out.cell (i := 2) (v := .slice none 0 0) rfl
          have y3 := HR5.out.cell (i := 3) (v := .slice none 0 0) rfl
          have fq := HX5.out.free
          have fy := HR5.out.free
          by_cases hk0 : ku = 0
          · subst hk0
            have HQ : Hid (R = .inr (i + 1, 50)) := Lib.hid (by rw [← HGO.out]; exact prun_bad HU.out (ps_k_kw HKU.out))
            go_wp2
            rw [HQ.out]
            have hxe := HX5.out.set 0 (.int .i64 0)
            exact stm_end (w := w5.setCell ⟨w.heap.size + 1, 0, none⟩ (.int .i64 0)) (x := ⟨0, t, [], []⟩) (tv := .slice none 0 0) (pv := .slice none 0 0) (j := i + 1) rfl rfl rfl (HR5.out.other (p := ⟨w.heap.size + 1, 0, none⟩) hne' (.int .i64 0)) (XAt.nil _ 0 t) (HB5.out.setCell (p := ⟨w.heap.size + 1, 0, none⟩) (Nat.le_succ _) (.int .i64 0)) (Nat.le_refl _) ⟨rfl, rfl, by decide⟩
          · have e0 : ((ku : Int) != 0) = true := by simp; omega
            have e00 : ((ku : Int) == 0) = false := by simp; omega
            go_wp2_with fail
            refine (ref_labelled _ _).mono ?_
            obtain ⟨lu, hlu⟩ : ∃ lu, labS ku = lu := ⟨_, rfl⟩
            rw [hlu]
            have HLU := Lib.hid hlu
            clear hlu
            rintro e w6 ⟨rfl, rfl⟩
            obtain ⟨W6, hW6⟩ : ∃ W6, W6 = w5.setCell ⟨w.heap.size + 1, 0, none⟩ (.int .i64 (ku : Nat)) := ⟨_, rfl⟩
            rw [← hW6]
            have HX6 := Lib.hid (show Row W6 (w.heap.size + 1) 34 #[.int .i64 (ku : Nat), .string ⟨t.toArray⟩, .slice none 0 0, .slice none 0 0] by rw [hW6]; exact HX5.out.set 0 _)
            have HR6 := Lib.hid (show Row W6 w.heap.size 34 #[.int .i64 0, .string ⟨#[]⟩, .slice none 0 0, .slice none 0 0] by rw [hW6]; exact HR5.out.other (p := ⟨w.heap.size + 1, 0, none⟩) hne' _)
            have HB6 := Lib.hid (show Below w.heap.size w W6 by rw [hW6]; exact HB5.out.setCell (p := ⟨w.heap.size + 1, 0, none⟩) (Nat.le_succ _) _)
            clear q0 q1 q2 q3 y0 y1 y2 y3 fq fy hW6 lR5 lX5
            have lR6 := HR6.out.lt
            have lX6 := HX6.out.lt
            have q0 := HX6.out.cell (i := 0) (v := .int .i64 (ku : Nat)) rfl
            have q1 := HX6.out.cell (i := 1) (v := .string ⟨t.toArray⟩) rfl
            have q2 := HX6.out.cell (i := 2) (v := .slice none 0 0) rfl
            have q3 := HX6.out.cell (i := 3) (v := .slice none 0 0) rfl
            have y0 := HR6.out.cell (i := 0) (v := .int .i64 0) rfl
            have y1 := HR6.out.cell (i := 1) (v := .string ⟨#[]⟩) rfl
            have y2 := HR6.out.cell (i := 2) (v := .slice none 0 0) rfl
            have y3 := HR6.out.cell (i := 3) (v := .slice none 0 0) rfl
            have fq := HX6.out.free
            have fy := HR6.out.free
            cases lu with
            | false =>
              have HQ : Hid (R = .inr (i, 51)) := Lib.hid (by rw [← HGO.out]; exact prun_bad (b := true) HU.out (ps_k_bad (by rw [HKU.out]; exact hk0) (by rw [HKU.out]; exact HLU.out)))
              go_wp2
              rw [HQ.out]
              exact stm_end (x := ⟨ku, t, [], []⟩) (tv := .slice none 0 0) (pv := .slice none 0 0) rfl rfl rfl HR6.out (XAt.nil W6 ku t) HB6.out (Nat.le_refl _) ⟨rfl, rfl, by decide⟩
            | true =>
              obtain ⟨m0, m1, m2⟩ := lab_le HLU.out
              have e8 : ((ku : Int) == 8) = false := by simp; omega
              have e9 : ((ku : Int) == 9) = false := by simp; omega
              have HRUN : Hid (prun i (.text ⟨ku, t, [], []⟩) (i + 2) (ws.drop (i + 2)) = R) := Lib.hid (by
                rw [← HGO.out]
                have := prun_go (at_ := i) HU.out (ps_k_text (l := t) (by rw [HKU.out]; exact hk0) (by rw [HKU.out]; exact HLU.out))
                rw [HKU.out] at this
                exact this.symm)
              clear hk0 e0
              clear q0 q1 q2 q3 y0 y1 y2 y3 fq fy lR6 lX6
              have HREL : Hid (StmRel w ws R i (.int .i64 ((i + 2 : Nat) : Int)) (.bool false) W6) := Lib.hid ⟨i + 2, ku, false, t, [], [], .slice none 0 0, .slice none 0 0, rfl, rfl, HX6.out, HR6.out, XAt.nil _ _ _, HB6.out, by omega, HRUN.out, Nat.zero_le _, Nat.zero_le _, m1, m2, fun h => nomatch h⟩
              have q0 := HX6.out.cell (i := 0) (v := .int .i64 (ku : Nat)) rfl
              have q1 := HX6.out.cell (i := 1) (v := .string ⟨(t : List UInt8).toArray⟩) rfl
              have q2 := HX6.out.cell (i := 2) (v := .slice none 0 0) rfl
              have q3 := HX6.out.cell (i := 3) (v := .slice none 0 0) rfl
              have y0 := HR6.out.cell (i := 0) (v := .int .i64 0) rfl
              have y1 := HR6.out.cell (i := 1) (v := .string ⟨#[]⟩) rfl
              have y2 := HR6.out.cell (i := 2) (v := .slice none 0 0) rfl
              have y3 := HR6.out.cell (i := 3) (v := .slice none 0 0) rfl
              have fq := HX6.out.free
              have fy := HR6.out.free
              go_wp2_with fail
              go_loopw [1, 10] (StmRel w ws R i) (fun iv _ _ => ws.length - (intOf iv).toNat)
              case atStart => exact HREL.out
              case round =>
                obtain ⟨j, k, pf, l, tx, px, tv, pv, rfl, rfl, hx, hr, hxa, hbl, hjl, hrun, hp2, ht2, n1, n2, hpf⟩ := hrel
                obtain ⟨⟨T1, d1, rfl⟩, P1, d2, rfl⟩ := xat_form hxa
                clear q0 q1 q2 q3 y0 y1 y2 y3 fq fy HREL HX6 HR6 HB6 HRUN m1 m2
                have ht200 := mostS_le k
                have HXr := Lib.hid hx
                have HRr := Lib.hid hr
                have HXA := Lib.hid hxa
                have HBr := Lib.hid hbl
                have HRUN := Lib.hid hrun
                have HPF := Lib.hid hpf
                clear hx hr hxa hbl hrun hpf
                have lxr := HXr.out.lt
                have lrr := HRr.out.lt
                have q0 := HXr.out.cell (i := 0) (v := .int .i64 (k : Nat)) rfl
                have q1 := HXr.out.cell (i := 1) (v := .string ⟨l.toArray⟩) rfl
                have q2 := HXr.out.cell (i := 2) (v := .slice T1 tx.length d1) rfl
                have q3 := HXr.out.cell (i := 3) (v := .slice P1 px.length d2) rfl
                have y0 := HRr.out.cell (i := 0) (v := .int .i64 0) rfl
                have y1 := HRr.out.cell (i := 1) (v := .string ⟨#[]⟩) rfl
                have y2 := HRr.out.cell (i := 2) (v := .slice none 0 0) rfl
                have y3 := HRr.out.cell (i := 3) (v := .slice none 0 0) rfl
                have fq := HXr.out.free
                have fy := HRr.out.free
                by_cases hlt : j < ws.length
                · obtain ⟨sw, hsw⟩ : ∃ sw, ws[j]? = some sw := ⟨_, List.getElem?_eq_getElem hlt⟩
                  have gj : wr.cell? ⟨b, o + j, none⟩ = some (.string ⟨sw.toArray⟩) := by
                    obtain ⟨b', o', e', g'⟩ := HXX.out j sw hsw
                    cases e'
                    exact (HBr.out.cell (p := ⟨b, o + j, none⟩) hlb).trans g'
                  have HS := Lib.hid hsw
                  have HSL := Lib.hid (HSZ.out sw (List.mem_of_getElem? hsw))
                  clear hsw
                  have j0 : (0 : Int) ≤ (j : Int) := by omega
                  have j1 : (j : Int) < (ws.length : Int) := by omega
                  by_cases h46 : sw = [36, 46]
                  · subst h46
                    cases pf with
                    | true =>
                      have H7 := Lib.hid (HPF.out rfl)
                      have e7 : ((k : Int) == 7) = true := by rw [H7.out]; rfl
                      have HQ : Hid (R = .inl (⟨k, l, tx, px⟩, j + 1)) := Lib.hid (by rw [← HRUN.out]; exact prun_done HS.out (ps_p_done rfl))
                      go_wp2_with fail
                      go_quiet (fail)
                      generalize hW9 : wr.drewN _ = w7
                      have HD : Hid (Below wr.heap.size wr w7) := Lib.hid (by rw [← hW9]; exact below_drewN (Below.refl _ _) _)
                      clear hW9
                      replace HXA := Lib.hid (HXA.out.below HD.out)
                      replace HXr := Lib.hid (HXr.out.below HD.out lxr)
                      replace HRr := Lib.hid (HRr.out.below HD.out lrr)
                      replace HBr := Lib.hid (then_ HBr.out HD.out)
                      clear q0 q1 q2 q3 y0 y1 y2 y3 fq fy lxr lrr
                      have lxr := HXr.out.lt
                      have lrr := HRr.out.lt
                      have q0 := HXr.out.cell (i := 0) (v := .int .i64 (k : Nat)) rfl
                      have q1 := HXr.out.cell (i := 1) (v := .string ⟨l.toArray⟩) rfl
                      have q2 := HXr.out.cell (i := 2) (v := .slice T1 tx.length d1) rfl
                      have q3 := HXr.out.cell (i := 3) (v := .slice P1 px.length d2) rfl
                      have y0 := HRr.out.cell (i := 0) (v := .int .i64 0) rfl
                      have y1 := HRr.out.cell (i := 1) (v := .string ⟨#[]⟩) rfl
                      have y2 := HRr.out.cell (i := 2) (v := .slice none 0 0) rfl
                      have y3 := HRr.out.cell (i := 3) (v := .slice none 0 0) rfl
                      have fq := HXr.out.free
                      have fy := HRr.out.free
                      clear HD
                      go_wp2_with fail
                      rw [HQ.out]
                      exact stm_end (x := ⟨(k : Nat), l, tx, px⟩) (tv := .slice T1 tx.length d1) (pv := .slice P1 px.length d2) (j := j + 1) rfl rfl rfl HRr.out HXA.out HBr.out (Nat.le_refl _) ⟨rfl, rfl, rfl⟩
                    | false =>
                      by_cases hs : tx.length < leastS k
                      · have e29 : decide ((tx.length : Int) < (leastS (k : Nat) : Nat)) = true := decide_eq_true (by omega)
                        have HQ : Hid (R = .inr (j, 53)) := Lib.hid (by rw [← HRUN.out]; exact prun_bad HS.out (ps_t_short (.inl rfl) hs))
                        go_wp2_with fail
                        go_quiet ((go_at_call 83; exact Calls.quiet_of_same ((ref_least _ _).mono fun _ _ h => ⟨h.1, h.2.symm⟩)))
                        generalize hW9 : wr.drewN _ = w7
                        have HD : Hid (Below wr.heap.size wr w7) := Lib.hid (by rw [← hW9]; exact below_drewN (Below.refl _ _) _)
                        clear hW9
                        replace HXA := Lib.hid (HXA.out.below HD.out)
                        replace HXr := Lib.hid (HXr.out.below HD.out lxr)
                        replace HRr := Lib.hid (HRr.out.below HD.out lrr)
                        replace HBr := Lib.hid (then_ HBr.out HD.out)
                        clear q0 q1 q2 q3 y0 y1 y2 y3 fq fy lxr lrr
                        have lxr := HXr.out.lt
                        have lrr := HRr.out.lt
                        have q0 := HXr.out.cell (i := 0) (v := .int .i64 (k : Nat)) rfl
                        have q1 := HXr.out.cell (i := 1) (v := .string ⟨l.toArray⟩) rfl
                        have q2 := HXr.out.cell (i := 2) (v := .slice T1 tx.length d1) rfl
                        have q3 := HXr.out.cell (i := 3) (v := .slice P1 px.length d2) rfl
                        have y0 := HRr.out.cell (i := 0) (v := .int .i64 0) rfl
                        have y1 := HRr.out.cell (i := 1) (v := .string ⟨#[]⟩) rfl
                        have y2 := HRr.out.cell (i := 2) (v := .slice none 0 0) rfl
                        have y3 := HRr.out.cell (i := 3) (v := .slice none 0 0) rfl
                        have fq := HXr.out.free
                        have fy := HRr.out.free
                        clear HD
                        go_wp2_with fail
                        rw [HQ.out]
                        exact stm_end (x := ⟨(k : Nat), l, tx, px⟩) (tv := .slice T1 tx.length d1) (pv := .slice P1 px.length d2) (j := j) rfl rfl rfl HRr.out HXA.out HBr.out (Nat.le_refl _) ⟨rfl, rfl, by decide⟩
                      · have e29 : decide ((tx.length : Int) < (leastS (k : Nat) : Nat)) = false := decide_eq_false (by omega)
                        by_cases h7 : k = 7
                        · have H7 := Lib.hid h7
                          clear h7
                          have e7 : ((k : Int) == 7) = true := by rw [H7.out]; rfl
                          have HQ : Hid (R = .inr (j, 50)) := Lib.hid (by rw [← HRUN.out]; exact prun_bad HS.out (ps_t_noeq rfl (by show (k : Int) = 7; rw [H7.out]; rfl) hs))
                          go_wp2_with fail
                          go_quiet ((go_at_call 83; exact Calls.quiet_of_same ((ref_least _ _).mono fun _ _ h => ⟨h.1, h.2.symm⟩)))
                          generalize hW9 : wr.drewN _ = w7
                          have HD : Hid (Below wr.heap.size wr w7) := Lib.hid (by rw [← hW9]; exact below_drewN (Below.refl _ _) _)
                          clear hW9
                          replace HXA := Lib.hid (HXA.out.below HD.out)
                          replace HXr := Lib.hid (HXr.out.below HD.out lxr)
                          replace HRr := Lib.hid (HRr.out.below HD.out lrr)
                          replace HBr := Lib.hid (then_ HBr.out HD.out)
                          clear q0 q1 q2 q3 y0 y1 y2 y3 fq fy lxr lrr
                          have lxr := HXr.out.lt
                          have lrr := HRr.out.lt
                          have q0 := HXr.out.cell (i := 0) (v := .int .i64 (k : Nat)) rfl
                          have q1 := HXr.out.cell (i := 1) (v := .string ⟨l.toArray⟩) rfl
                          have q2 := HXr.out.cell (i := 2) (v := .slice T1 tx.length d1) rfl
                          have q3 := HXr.out.cell (i := 3) (v := .slice P1 px.length d2) rfl
                          have y0 := HRr.out.cell (i := 0) (v := .int .i64 0) rfl
                          have y1 := HRr.out.cell (i := 1) (v := .string ⟨#[]⟩) rfl
                          have y2 := HRr.out.cell (i := 2) (v := .slice none 0 0) rfl
                          have y3 := HRr.out.cell (i := 3) (v := .slice none 0 0) rfl
                          have fq := HXr.out.free
                          have fy := HRr.out.free
                          clear HD
                          go_wp2_with fail
                          rw [HQ.out]
                          exact stm_end (x := ⟨(k : Nat), l, tx, px⟩) (tv := .slice T1 tx.length d1) (pv := .slice P1 px.length d2) (j := j) rfl rfl rfl HRr.out HXA.out HBr.out (Nat.le_refl _) ⟨rfl, rfl, by decide⟩
                        · have e7 : ((k : Int) == 7) = false := by simp; omega
                          have H7 := Lib.hid h7
                          clear h7
                          have HQ : Hid (R = .inl (⟨k, l, tx, px⟩, j + 1)) := Lib.hid (by rw [← HRUN.out]; exact prun_done HS.out (ps_t_done rfl (by show ((k : Int) ≠ 7); have := H7.out; omega) hs))
                          go_wp2_with fail
                          go_quiet ((go_at_call 83; exact Calls.quiet_of_same ((ref_least _ _).mono fun _ _ h => ⟨h.1, h.2.symm⟩)))
                          generalize hW9 : wr.drewN _ = w7
                          have HD : Hid (Below wr.heap.size wr w7) := Lib.hid (by rw [← hW9]; exact below_drewN (Below.refl _ _) _)
                          clear hW9
                          replace HXA := Lib.hid (HXA.out.below HD.out)
                          replace HXr := Lib.hid (HXr.out.below HD.out lxr)
                          replace HRr := Lib.hid (HRr.out.below HD.out lrr)
                          replace HBr := Lib.hid (then_ HBr.out HD.out)
                          clear q0 q1 q2 q3 y0 y1 y2 y3 fq fy lxr lrr
                          have lxr := HXr.out.lt
                          have lrr := HRr.out.lt
                          have q0 := HXr.out.cell (i := 0) (v := .int .i64 (k : Nat)) rfl
                          have q1 := HXr.out.cell (i := 1) (v := .string ⟨l.toArray⟩) rfl
                          have q2 := HXr.out.cell (i := 2) (v := .slice T1 tx.length d1) rfl
                          have q3 := HXr.out.cell (i := 3) (v := .slice P1 px.length d2) rfl
                          have y0 := HRr.out.cell (i := 0) (v := .int .i64 0) rfl
                          have y1 := HRr.out.cell (i := 1) (v := .string ⟨#[]⟩) rfl
                          have y2 := HRr.out.cell (i := 2) (v := .slice none 0 0) rfl
                          have y3 := HRr.out.cell (i := 3) (v := .slice none 0 0) rfl
                          have fq := HXr.out.free
                          have fy := HRr.out.free
                          clear HD
                          go_wp2_with fail
                          rw [HQ.out]
                          exact stm_end (x := ⟨(k : Nat), l, tx, px⟩) (tv := .slice T1 tx.length d1) (pv := .slice P1 px.length d2) (j := j + 1) rfl rfl rfl HRr.out HXA.out HBr.out (Nat.le_refl _) ⟨rfl, rfl, rfl⟩
                  · have b46 : (sw == [36, 46]) = false := by simpa using h46
                    by_cases h61 : sw = [36, 61]
                    · subst h61
                      cases pf with
                      | true =>
                        have H7 := Lib.hid (HPF.out rfl)
                        have e7 : ((k : Int) == 7) = true := by rw [H7.out]; rfl
                        have HQ : Hid (R = .inr (j, 50)) := Lib.hid (by rw [← HRUN.out]; exact prun_bad HS.out (ps_p_kw h46 (by decide)))
                        go_wp2_with fail
                        go_quiet (fail)
                        generalize hW9 : wr.drewN _ = w7
                        have HD : Hid (Below wr.heap.size wr w7) := Lib.hid (by rw [← hW9]; exact below_drewN (Below.refl _ _) _)
                        clear hW9
                        replace HXA := Lib.hid (HXA.out.below HD.out)
                        replace HXr := Lib.hid (HXr.out.below HD.out lxr)
                        replace HRr := Lib.hid (HRr.out.below HD.out lrr)
                        replace HBr := Lib.hid (then_ HBr.out HD.out)
                        clear q0 q1 q2 q3 y0 y1 y2 y3 fq fy lxr lrr
                        have lxr := HXr.out.lt
                        have lrr := HRr.out.lt
                        have q0 := HXr.out.cell (i := 0) (v := .int .i64 (k : Nat)) rfl
                        have q1 := HXr.out.cell (i := 1) (v := .string ⟨l.toArray⟩) rfl
                        have q2 := HXr.out.cell (i := 2) (v := .slice T1 tx.length d1) rfl
                        have q3 := HXr.out.cell (i := 3) (v := .slice P1 px.length d2) rfl
                        have y0 := HRr.out.cell (i := 0) (v := .int .i64 0) rfl
                        have y1 := HRr.out.cell (i := 1) (v := .string ⟨#[]⟩) rfl
                        have y2 := HRr.out.cell (i := 2) (v := .slice none 0 0) rfl
                        have y3 := HRr.out.cell (i := 3) (v := .slice none 0 0) rfl
                        have fq := HXr.out.free
                        have fy := HRr.out.free
                        clear HD
                        go_wp2_with fail
                        refine (ref_isKw _ _).mono ?_
                        rw [show isKw [36, 61] = true by decide]
                        rintro e w8 ⟨rfl, hb8⟩
                        have HB8 : Hid (Below w7.heap.size w7 w8) := Lib.hid hb8
                        clear hb8
                        replace HXA := Lib.hid (HXA.out.below HB8.out)
                        replace HXr := Lib.hid (HXr.out.below HB8.out lxr)
                        replace HRr := Lib.hid (HRr.out.below HB8.out lrr)
                        replace HBr := Lib.hid (then_ HBr.out HB8.out)
                        clear q0 q1 q2 q3 y0 y1 y2 y3 fq fy lxr lrr
                        have lxr := HXr.out.lt
                        have lrr := HRr.out.lt
                        have q0 := HXr.out.cell (i := 0) (v := .int .i64 (k : Nat)) rfl
                        have q1 := HXr.out.cell (i := 1) (v := .string ⟨l.toArray⟩) rfl
                        have q2 := HXr.out.cell (i := 2) (v := .slice T1 tx.length d1) rfl
                        have q3 := HXr.out.cell (i := 3) (v := .slice P1 px.length d2) rfl
                        have y0 := HRr.out.cell (i := 0) (v := .int .i64 0) rfl
                        have y1 := HRr.out.cell (i := 1) (v := .string ⟨#[]⟩) rfl
                        have y2 := HRr.out.cell (i := 2) (v := .slice none 0 0) rfl
                        have y3 := HRr.out.cell (i := 3) (v := .slice none 0 0) rfl
                        have fq := HXr.out.free
                        have fy := HRr.out.free
                        go_wp2_with fail
                        rw [HQ.out]
                        exact stm_end (x := ⟨(k : Nat), l, tx, px⟩) (tv := .slice T1 tx.length d1) (pv := .slice P1 px.length d2) (j := j) rfl rfl rfl HRr.out HXA.out HBr.out (Nat.le_refl _) ⟨rfl, rfl, by decide⟩
                      | false =>
                        by_cases h7 : k = 7
                        · have H7 := Lib.hid h7
                          clear h7
                          have e7 : ((k : Int) == 7) = true := by rw [H7.out]; rfl
                          by_cases hs : tx.length < leastS k
                          · have e29 : decide ((tx.length : Int) < (leastS (k : Nat) : Nat)) = true := decide_eq_true (by omega)
                            have HQ : Hid (R = .inr (j, 53)) := Lib.hid (by rw [← HRUN.out]; exact prun_bad HS.out (ps_t_short (.inr ⟨rfl, by show (k : Int) = 7; rw [H7.out]; rfl⟩) hs))
                            go_wp2_with fail
                            go_quiet ((go_at_call 83; exact Calls.quiet_of_same ((ref_least _ _).mono fun _ _ h => ⟨h.1, h.2.symm⟩)))
                            generalize hW9 : wr.drewN _ = w7
                            have HD : Hid (Below wr.heap.size wr w7) := Lib.hid (by rw [← hW9]; exact below_drewN (Below.refl _ _) _)
                            clear hW9
                            replace HXA := Lib.hid (HXA.out.below HD.out)
                            replace HXr := Lib.hid (HXr.out.below HD.out lxr)
                            replace HRr := Lib.hid (HRr.out.below HD.out lrr)
                            replace HBr := Lib.hid (then_ HBr.out HD.out)
                            clear q0 q1 q2 q3 y0 y1 y2 y3 fq fy lxr lrr
                            have lxr := HXr.out.lt
                            have lrr := HRr.out.lt
                            have q0 := HXr.out.cell (i := 0) (v := .int .i64 (k : Nat)) rfl
                            have q1 := HXr.out.cell (i := 1) (v := .string ⟨l.toArray⟩) rfl
                            have q2 := HXr.out.cell (i := 2) (v := .slice T1 tx.length d1) rfl
                            have q3 := HXr.out.cell (i := 3) (v := .slice P1 px.length d2) rfl
                            have y0 := HRr.out.cell (i := 0) (v := .int .i64 0) rfl
                            have y1 := HRr.out.cell (i := 1) (v := .string ⟨#[]⟩) rfl
                            have y2 := HRr.out.cell (i := 2) (v := .slice none 0 0) rfl
                            have y3 := HRr.out.cell (i := 3) (v := .slice none 0 0) rfl
                            have fq := HXr.out.free
                            have fy := HRr.out.free
                            clear HD
                            go_wp2_with fail
                            rw [HQ.out]
                            exact stm_end (x := ⟨(k : Nat), l, tx, px⟩) (tv := .slice T1 tx.length d1) (pv := .slice P1 px.length d2) (j := j) rfl rfl rfl HRr.out HXA.out HBr.out (Nat.le_refl _) ⟨rfl, rfl, by decide⟩
                          · have e29 : decide ((tx.length : Int) < (leastS (k : Nat) : Nat)) = false := decide_eq_false (by omega)
                            have HQ := Lib.hid ((prun_go (at_ := i) HS.out (ps_t_proof rfl (by show (k : Int) = 7; rw [H7.out]; rfl) hs)).symm.trans HRUN.out)
                            go_wp2_with fail
                            go_quiet ((go_at_call 83; exact Calls.quiet_of_same ((ref_least _ _).mono fun _ _ h => ⟨h.1, h.2.symm⟩)))
                            generalize hW9 : wr.drewN _ = w7
                            have HD : Hid (Below wr.heap.size wr w7) := Lib.hid (by rw [← hW9]; exact below_drewN (Below.refl _ _) _)
                            clear hW9
                            replace HXA := Lib.hid (HXA.out.below HD.out)
                            replace HXr := Lib.hid (HXr.out.below HD.out lxr)
                            replace HRr := Lib.hid (HRr.out.below HD.out lrr)
                            replace HBr := Lib.hid (then_ HBr.out HD.out)
                            clear q0 q1 q2 q3 y0 y1 y2 y3 fq fy lxr lrr
                            have lxr := HXr.out.lt
                            have lrr := HRr.out.lt
                            have q0 := HXr.out.cell (i := 0) (v := .int .i64 (k : Nat)) rfl
                            have q1 := HXr.out.cell (i := 1) (v := .string ⟨l.toArray⟩) rfl
                            have q2 := HXr.out.cell (i := 2) (v := .slice T1 tx.length d1) rfl
                            have q3 := HXr.out.cell (i := 3) (v := .slice P1 px.length d2) rfl
                            have y0 := HRr.out.cell (i := 0) (v := .int .i64 0) rfl
                            have y1 := HRr.out.cell (i := 1) (v := .string ⟨#[]⟩) rfl
                            have y2 := HRr.out.cell (i := 2) (v := .slice none 0 0) rfl
                            have y3 := HRr.out.cell (i := 3) (v := .slice none 0 0) rfl
                            have fq := HXr.out.free
                            have fy := HRr.out.free
                            clear HD
                            go_wp2_with fail
                            go_roundw
                            case rel => exact ⟨j + 1, k, true, l, tx, px, _, _, by go_num, rfl, HXr.out, HRr.out, HXA.out, HBr.out, by omega, HQ.out, by omega, ht2, n1, n2, fun _ => H7.out⟩
                            case measure => simp [intOf]; omega
                        · have e7 : ((k : Int) == 7) = false := by simp; omega
                          have H7 := Lib.hid h7
                          clear h7
                          have HQ : Hid (R = .inr (j, 50)) := Lib.hid (by rw [← HRUN.out]; exact prun_bad HS.out (ps_t_kw (by rintro (h | ⟨_, h⟩); exact h46 h; exact H7.out (by have h' : ((k : Nat) : Int) = 7 := h; omega)) (by decide)))
                          go_wp2_with fail
                          go_quiet (fail)
                          generalize hW9 : wr.drewN _ = w7
                          have HD : Hid (Below wr.heap.size wr w7) := Lib.hid (by rw [← hW9]; exact below_drewN (Below.refl _ _) _)
                          clear hW9
                          replace HXA := Lib.hid (HXA.out.below HD.out)
                          replace HXr := Lib.hid (HXr.out.below HD.out lxr)
                          replace HRr := Lib.hid (HRr.out.below HD.out lrr)
                          replace HBr := Lib.hid (then_ HBr.out HD.out)
                          clear q0 q1 q2 q3 y0 y1 y2 y3 fq fy lxr lrr
                          have lxr := HXr.out.lt
                          have lrr := HRr.out.lt
                          have q0 := HXr.out.cell (i := 0) (v := .int .i64 (k : Nat)) rfl
                          have q1 := HXr.out.cell (i := 1) (v := .string ⟨l.toArray⟩) rfl
                          have q2 := HXr.out.cell (i := 2) (v := .slice T1 tx.length d1) rfl
                          have q3 := HXr.out.cell (i := 3) (v := .slice P1 px.length d2) rfl
                          have y0 := HRr.out.cell (i := 0) (v := .int .i64 0) rfl
                          have y1 := HRr.out.cell (i := 1) (v := .string ⟨#[]⟩) rfl
                          have y2 := HRr.out.cell (i := 2) (v := .slice none 0 0) rfl
                          have y3 := HRr.out.cell (i := 3) (v := .slice none 0 0) rfl
                          have fq := HXr.out.free
                          have fy := HRr.out.free
                          clear HD
                          go_wp2_with fail
                          refine (ref_isKw _ _).mono ?_
                          rw [show isKw [36, 61] = true by decide]
                          rintro e w8 ⟨rfl, hb8⟩
                          have HB8 : Hid (Below w7.heap.size w7 w8) := Lib.hid hb8
                          clear hb8
                          replace HXA := Lib.hid (HXA.out.below HB8.out)
                          replace HXr := Lib.hid (HXr.out.below HB8.out lxr)
                          replace HRr := Lib.hid (HRr.out.below HB8.out lrr)
                          replace HBr := Lib.hid (then_ HBr.out HB8.out)
                          clear q0 q1 q2 q3 y0 y1 y2 y3 fq fy lxr lrr
                          have lxr := HXr.out.lt
                          have lrr := HRr.out.lt
                          have q0 := HXr.out.cell (i := 0) (v := .int .i64 (k : Nat)) rfl
                          have q1 := HXr.out.cell (i := 1) (v := .string ⟨l.toArray⟩) rfl
                          have q2 := HXr.out.cell (i := 2) (v := .slice T1 tx.length d1) rfl
                          have q3 := HXr.out.cell (i := 3) (v := .slice P1 px.length d2) rfl
                          have y0 := HRr.out.cell (i := 0) (v := .int .i64 0) rfl
                          have y1 := HRr.out.cell (i := 1) (v := .string ⟨#[]⟩) rfl
                          have y2 := HRr.out.cell (i := 2) (v := .slice none 0 0) rfl
                          have y3 := HRr.out.cell (i := 3) (v := .slice none 0 0) rfl
                          have fq := HXr.out.free
                          have fy := HRr.out.free
                          go_wp2_with fail
                          rw [HQ.out]
                          exact stm_end (x := ⟨(k : Nat), l, tx, px⟩) (tv := .slice T1 tx.length d1) (pv := .slice P1 px.length d2) (j := j) rfl rfl rfl HRr.out HXA.out HBr.out (Nat.le_refl _) ⟨rfl, rfl, by decide⟩
                    · have b61 : (sw == [36, 61]) = false := by simpa using h61
                      cases pf with
                      | true =>
                        go_wp2_with fail
                        go_quiet (fail)
                        generalize hW9 : wr.drewN _ = w7
                        have HD : Hid (Below wr.heap.size wr w7) := Lib.hid (by rw [← hW9]; exact below_drewN (Below.refl _ _) _)
                        clear hW9
                        replace HXA := Lib.hid (HXA.out.below HD.out)
                        replace HXr := Lib.hid (HXr.out.below HD.out lxr)
                        replace HRr := Lib.hid (HRr.out.below HD.out lrr)
                        replace HBr := Lib.hid (then_ HBr.out HD.out)
                        clear q0 q1 q2 q3 y0 y1 y2 y3 fq fy lxr lrr
                        have lxr := HXr.out.lt
                        have lrr := HRr.out.lt
                        have q0 := HXr.out.cell (i := 0) (v := .int .i64 (k : Nat)) rfl
                        have q1 := HXr.out.cell (i := 1) (v := .string ⟨l.toArray⟩) rfl
                        have q2 := HXr.out.cell (i := 2) (v := .slice T1 tx.length d1) rfl
                        have q3 := HXr.out.cell (i := 3) (v := .slice P1 px.length d2) rfl
                        have y0 := HRr.out.cell (i := 0) (v := .int .i64 0) rfl
                        have y1 := HRr.out.cell (i := 1) (v := .string ⟨#[]⟩) rfl
                        have y2 := HRr.out.cell (i := 2) (v := .slice none 0 0) rfl
                        have y3 := HRr.out.cell (i := 3) (v := .slice none 0 0) rfl
                        have fq := HXr.out.free
                        have fy := HRr.out.free
                        clear HD
                        go_wp2_with fail
                        refine (ref_isKw _ _).mono ?_
                        obtain ⟨bk, hbk⟩ : ∃ bk, isKw sw = bk := ⟨_, rfl⟩
                        rw [hbk]
                        have HBK := Lib.hid hbk
                        clear hbk
                        rintro e w8 ⟨rfl, hb8⟩
                        have HB8 : Hid (Below w7.heap.size w7 w8) := Lib.hid hb8
                        clear hb8
                        replace HXA := Lib.hid (HXA.out.below HB8.out)
                        replace HXr := Lib.hid (HXr.out.below HB8.out lxr)
                        replace HRr := Lib.hid (HRr.out.below HB8.out lrr)
                        replace HBr := Lib.hid (then_ HBr.out HB8.out)
                        clear q0 q1 q2 q3 y0 y1 y2 y3 fq fy lxr lrr
                        have lxr := HXr.out.lt
                        have lrr := HRr.out.lt
                        have q0 := HXr.out.cell (i := 0) (v := .int .i64 (k : Nat)) rfl
                        have q1 := HXr.out.cell (i := 1) (v := .string ⟨l.toArray⟩) rfl
                        have q2 := HXr.out.cell (i := 2) (v := .slice T1 tx.length d1) rfl
                        have q3 := HXr.out.cell (i := 3) (v := .slice P1 px.length d2) rfl
                        have y0 := HRr.out.cell (i := 0) (v := .int .i64 0) rfl
                        have y1 := HRr.out.cell (i := 1) (v := .string ⟨#[]⟩) rfl
                        have y2 := HRr.out.cell (i := 2) (v := .slice none 0 0) rfl
                        have y3 := HRr.out.cell (i := 3) (v := .slice none 0 0) rfl
                        have fq := HXr.out.free
                        have fy := HRr.out.free
                        cases bk with
                        | true =>
                          have HQ : Hid (R = .inr (j, 50)) := Lib.hid (by rw [← HRUN.out]; exact prun_bad HS.out (ps_p_kw h46 HBK.out))
                          go_wp2_with fail
                          rw [HQ.out]
                          exact stm_end (x := ⟨(k : Nat), l, tx, px⟩) (tv := .slice T1 tx.length d1) (pv := .slice P1 px.length d2) (j := j) rfl rfl rfl HRr.out HXA.out HBr.out (Nat.le_refl _) ⟨rfl, rfl, by decide⟩
                        | false =>
                          obtain ⟨bp, hbp⟩ : ∃ bp, prfS sw = bp := ⟨_, rfl⟩
                          have HBP := Lib.hid hbp
                          clear hbp
                          go_wp2_with fail
                          refine (ref_isProof _ sw HSL.out).mono ?_
                          rw [HBP.out]
                          rintro e w9 ⟨rfl, rfl⟩
                          cases bp with
                          | false =>
                            have HQ : Hid (R = .inr (j, 54)) := Lib.hid (by rw [← HRUN.out]; exact prun_bad HS.out (ps_p_bad h46 HBK.out HBP.out))
                            go_wp2_with fail
                            rw [HQ.out]
                            exact stm_end (x := ⟨(k : Nat), l, tx, px⟩) (tv := .slice T1 tx.length d1) (pv := .slice P1 px.length d2) (j := j) rfl rfl rfl HRr.out HXA.out HBr.out (Nat.le_refl _) ⟨rfl, rfl, by decide⟩
                          | true =>
                            have HQ := Lib.hid ((prun_go (at_ := i) HS.out (ps_p_add h46 HBK.out HBP.out)).symm.trans HRUN.out)
                            obtain ⟨i0, hi, hi0, hi1, hi2⟩ := info_parts infoStr
                            have HE0 : Hid ((w8.alloc (.cells #[] 9)).ownsRow w8.heap.size 9 1 (.slice (some ⟨w8.heap.size, 0, none⟩) 0 0) 0 []) := Lib.hid (by have h1 := World.ownsRow_made (base := w8.heap.size) (e := 9) (size := 1) w8 #[] 0 (Nat.le_refl _) (by decide) (by simp); simpa using h1)
                            have HFL : Hid (Rds (w8.alloc (.cells #[] 9)) 1 (.slice P1 px.length d2) px.length (px.map fun s => Value.string ⟨s.toArray⟩)) := Lib.hid (Rds.below (HXA.out.px) (new_ (Below.refl _ _) _))
                            go_wp2_with (first
                              | (at_builtin; (refine wpList_append_rds rfl (.tmp 175) (.tmp 177) 22 rfl w8.heap.size 9 i0 (.string ⟨#[]⟩) 1 16 Tryd.underlying22 hi hi0 hi1 hi2 rfl (by decide) (.slice (some ⟨w8.heap.size, 0, none⟩) 0 0) 0 [] (by rfl) HE0.out (.slice P1 px.length d2) px.length (px.map fun s => Value.string ⟨s.toArray⟩) (by rfl) HFL.out str_ones (by unfold maxLen; omega) (by omega) (by simp) ?_; intro v2 w2 ho2 hg2; rw [Nat.zero_add, List.nil_append] at ho2; have HO2 := Lib.hid ho2; have HG2 := Lib.hid hg2; have hz2 := hg2.size; obtain ⟨VA, vc, rfl, _⟩ := own_form ho2; clear ho2 hg2))
                              | (at_builtin; (refine wpList_append_own _ rfl (.tmp 178) (.tmp 180) 22 rfl w8.heap.size 9 i0 (.string ⟨#[]⟩) 1 16 Tryd.underlying22 hi hi0 hi1 hi2 rfl (by decide) (.slice VA px.length vc) px.length (px.map fun s => Value.string ⟨s.toArray⟩) (by rfl) (ca_own_alloc HO2.out _) ⟨w2.heap.size, 0, none⟩ 1 1 [.string ⟨sw.toArray⟩] rfl rfl (cells_of' _ _ _ _ rfl rfl) (by simp [Value.oneCell']) (by unfold maxLen; omega) (by omega) (by simp at hz2; simp; omega) ?_; intro v3 w3 ho3 hg3 _; obtain ⟨V3, vc3, rfl, _⟩ := own_form ho3; have HO3 := Lib.hid ho3; have HB3a := Lib.hid (app_below HG2.out HO2.out hg3); clear ho3 hg3; replace HXA := Lib.hid (HXA.out.below HB3a.out); replace HXr := Lib.hid (HXr.out.below HB3a.out lxr); replace HRr := Lib.hid (HRr.out.below HB3a.out lrr); replace HBr := Lib.hid (then_ HBr.out HB3a.out); clear q0 q1 q2 q3 y0 y1 y2 y3 fq fy lxr lrr; have lxr := HXr.out.lt; have lrr := HRr.out.lt; have q0 := HXr.out.cell (i := 0) (v := .int .i64 (k : Nat)) rfl; have q1 := HXr.out.cell (i := 1) (v := .string ⟨l.toArray⟩) rfl; have q2 := HXr.out.cell (i := 2) (v := .slice T1 tx.length d1) rfl; have q3 := HXr.out.cell (i := 3) (v := .slice P1 px.length d2) rfl; have fq := HXr.out.free; have y0 := HRr.out.cell (i := 0) (v := .int .i64 0) rfl; have y1 := HRr.out.cell (i := 1) (v := .string ⟨#[]⟩) rfl; have y2 := HRr.out.cell (i := 2) (v := .slice none 0 0) rfl; have y3 := HRr.out.cell (i := 3) (v := .slice none 0 0) rfl; have fy := HRr.out.free))
                              | fail)
                            go_roundw
                            case rel => exact ⟨j + 1, k, true, l, tx, px ++ [sw], _, _, by go_num, rfl, HXr.out.set 3 _, HRr.out.other (p := ⟨w.heap.size + 1, 3, none⟩) hne' _, xat_proof HXA.out HXr.out HO3.out _, HBr.out.setCell (p := ⟨w.heap.size + 1, 3, none⟩) (Nat.le_succ _) _, by omega, HQ.out, by simp; omega, ht2, n1, n2, fun _ => HPF.out trivial⟩
                            case measure => simp [intOf]; omega
                      | false =>
                        have hno : ¬ (sw = [36, 46] ∨ sw = [36, 61] ∧ ((k : Nat) : Int) = 7) := fun h => h.elim h46 fun h => h61 h.1
                        go_wp2_with fail
                        go_quiet (fail)
                        generalize hW9 : wr.drewN _ = w7
                        have HD : Hid (Below wr.heap.size wr w7) := Lib.hid (by rw [← hW9]; exact below_drewN (Below.refl _ _) _)
                        clear hW9
                        replace HXA := Lib.hid (HXA.out.below HD.out)
                        replace HXr := Lib.hid (HXr.out.below HD.out lxr)
                        replace HRr := Lib.hid (HRr.out.below HD.out lrr)
                        replace HBr := Lib.hid (then_ HBr.out HD.out)
                        clear q0 q1 q2 q3 y0 y1 y2 y3 fq fy lxr lrr
                        have lxr := HXr.out.lt
                        have lrr := HRr.out.lt
                        have q0 := HXr.out.cell (i := 0) (v := .int .i64 (k : Nat)) rfl
                        have q1 := HXr.out.cell (i := 1) (v := .string ⟨l.toArray⟩) rfl
                        have q2 := HXr.out.cell (i := 2) (v := .slice T1 tx.length d1) rfl
                        have q3 := HXr.out.cell (i := 3) (v := .slice P1 px.length d2) rfl
                        have y0 := HRr.out.cell (i := 0) (v := .int .i64 0) rfl
                        have y1 := HRr.out.cell (i := 1) (v := .string ⟨#[]⟩) rfl
                        have y2 := HRr.out.cell (i := 2) (v := .slice none 0 0) rfl
                        have y3 := HRr.out.cell (i := 3) (v := .slice none 0 0) rfl
                        have fq := HXr.out.free
                        have fy := HRr.out.free
                        clear HD
                        go_wp2_with fail
                        refine (ref_isKw _ _).mono ?_
                        obtain ⟨bk, hbk⟩ : ∃ bk, isKw sw = bk := ⟨_, rfl⟩
                        rw [hbk]
                        have HBK := Lib.hid hbk
                        clear hbk
                        rintro e w8 ⟨rfl, hb8⟩
                        have HB8 : Hid (Below w7.heap.size w7 w8) := Lib.hid hb8
                        clear hb8
                        replace HXA := Lib.hid (HXA.out.below HB8.out)
                        replace HXr := Lib.hid (HXr.out.below HB8.out lxr)
                        replace HRr := Lib.hid (HRr.out.below HB8.out lrr)
                        replace HBr := Lib.hid (then_ HBr.out HB8.out)
                        clear q0 q1 q2 q3 y0 y1 y2 y3 fq fy lxr lrr
                        have lxr := HXr.out.lt
                        have lrr := HRr.out.lt
                        have q0 := HXr.out.cell (i := 0) (v := .int .i64 (k : Nat)) rfl
                        have q1 := HXr.out.cell (i := 1) (v := .string ⟨l.toArray⟩) rfl
                        have q2 := HXr.out.cell (i := 2) (v := .slice T1 tx.length d1) rfl
                        have q3 := HXr.out.cell (i := 3) (v := .slice P1 px.length d2) rfl
                        have y0 := HRr.out.cell (i := 0) (v := .int .i64 0) rfl
                        have y1 := HRr.out.cell (i := 1) (v := .string ⟨#[]⟩) rfl
                        have y2 := HRr.out.cell (i := 2) (v := .slice none 0 0) rfl
                        have y3 := HRr.out.cell (i := 3) (v := .slice none 0 0) rfl
                        have fq := HXr.out.free
                        have fy := HRr.out.free
                        cases bk with
                        | true =>
                          have HQ : Hid (R = .inr (j, 50)) := Lib.hid (by rw [← HRUN.out]; exact prun_bad HS.out (ps_t_kw hno HBK.out))
                          go_wp2_with fail
                          rw [HQ.out]
                          exact stm_end (x := ⟨(k : Nat), l, tx, px⟩) (tv := .slice T1 tx.length d1) (pv := .slice P1 px.length d2) (j := j) rfl rfl rfl HRr.out HXA.out HBr.out (Nat.le_refl _) ⟨rfl, rfl, by decide⟩
                        | false =>
                          obtain ⟨bs, hbs⟩ : ∃ bs, symB sw = bs := ⟨_, rfl⟩
                          have HBS := Lib.hid hbs
                          clear hbs
                          go_wp2_with fail
                          refine (ref_isSymbol _ sw HSL.out).mono ?_
                          rw [HBS.out]
                          rintro e w9 ⟨rfl, rfl⟩
                          cases bs with
                          | false =>
                            have HQ : Hid (R = .inr (j, 52)) := Lib.hid (by rw [← HRUN.out]; exact prun_bad HS.out (ps_t_sym hno HBK.out (of_decide_eq_false HBS.out)))
                            go_wp2_with fail
                            rw [HQ.out]
                            exact stm_end (x := ⟨(k : Nat), l, tx, px⟩) (tv := .slice T1 tx.length d1) (pv := .slice P1 px.length d2) (j := j) rfl rfl rfl HRr.out HXA.out HBr.out (Nat.le_refl _) ⟨rfl, rfl, by decide⟩
                          | true =>
                            by_cases hf : tx.length = mostS k
                            · have e45 : decide ((mostS (k : Nat) : Nat) ≤ (tx.length : Int)) = true := decide_eq_true (by omega)
                              have e46 : decide (mostS (k : Nat) ≤ tx.length) = true := decide_eq_true (by omega)
                              have e47 : mostS (k : Nat) ≤ tx.length := by omega
                              have HQ : Hid (R = .inr (j, 53)) := Lib.hid (by rw [← HRUN.out]; exact prun_bad HS.out (ps_t_full hno HBK.out (of_decide_eq_true HBS.out) hf))
                              clear hf ht2
                              go_wp2_with fail
                              go_quiet ((go_at_call 86; exact Calls.quiet_of_same ((ref_most _ _).mono fun _ _ h => ⟨h.1, h.2.symm⟩)))
                              generalize hW9 : w8.drewN _ = w9
                              have HD : Hid (Below w8.heap.size w8 w9) := Lib.hid (by rw [← hW9]; exact below_drewN (Below.refl _ _) _)
                              clear hW9
                              replace HXA := Lib.hid (HXA.out.below HD.out)
                              replace HXr := Lib.hid (HXr.out.below HD.out lxr)
                              replace HRr := Lib.hid (HRr.out.below HD.out lrr)
                              replace HBr := Lib.hid (then_ HBr.out HD.out)
                              clear q0 q1 q2 q3 y0 y1 y2 y3 fq fy lxr lrr
                              have lxr := HXr.out.lt
                              have lrr := HRr.out.lt
                              have q0 := HXr.out.cell (i := 0) (v := .int .i64 (k : Nat)) rfl
                              have q1 := HXr.out.cell (i := 1) (v := .string ⟨l.toArray⟩) rfl
                              have q2 := HXr.out.cell (i := 2) (v := .slice T1 tx.length d1) rfl
                              have q3 := HXr.out.cell (i := 3) (v := .slice P1 px.length d2) rfl
                              have y0 := HRr.out.cell (i := 0) (v := .int .i64 0) rfl
                              have y1 := HRr.out.cell (i := 1) (v := .string ⟨#[]⟩) rfl
                              have y2 := HRr.out.cell (i := 2) (v := .slice none 0 0) rfl
                              have y3 := HRr.out.cell (i := 3) (v := .slice none 0 0) rfl
                              have fq := HXr.out.free
                              have fy := HRr.out.free
                              clear HD
                              go_wp2_with fail
                              rw [HQ.out]
                              exact stm_end (x := ⟨(k : Nat), l, tx, px⟩) (tv := .slice T1 tx.length d1) (pv := .slice P1 px.length d2) (j := j) rfl rfl rfl HRr.out HXA.out HBr.out (Nat.le_refl _) ⟨rfl, rfl, by decide⟩
                            · have e45 : decide ((mostS (k : Nat) : Nat) ≤ (tx.length : Int)) = false := decide_eq_false (by omega)
                              have HQ := Lib.hid ((prun_go (at_ := i) HS.out (ps_t_add hno HBK.out (of_decide_eq_true HBS.out) hf)).symm.trans HRUN.out)
                              have hm3 : tx.length + 1 ≤ mostS (k : Nat) := by omega
                              have ht199 : tx.length ≤ 199 := by omega
                              clear hf ht2
                              go_wp2_with fail
                              go_quiet ((go_at_call 86; exact Calls.quiet_of_same ((ref_most _ _).mono fun _ _ h => ⟨h.1, h.2.symm⟩)))
                              generalize hW9 : w8.drewN _ = w9
                              have HD : Hid (Below w8.heap.size w8 w9) := Lib.hid (by rw [← hW9]; exact below_drewN (Below.refl _ _) _)
                              clear hW9
                              replace HXA := Lib.hid (HXA.out.below HD.out)
                              replace HXr := Lib.hid (HXr.out.below HD.out lxr)
                              replace HRr := Lib.hid (HRr.out.below HD.out lrr)
                              replace HBr := Lib.hid (then_ HBr.out HD.out)
                              clear q0 q1 q2 q3 y0 y1 y2 y3 fq fy lxr lrr
                              have lxr := HXr.out.lt
                              have lrr := HRr.out.lt
                              have q0 := HXr.out.cell (i := 0) (v := .int .i64 (k : Nat)) rfl
                              have q1 := HXr.out.cell (i := 1) (v := .string ⟨l.toArray⟩) rfl
                              have q2 := HXr.out.cell (i := 2) (v := .slice T1 tx.length d1) rfl
                              have q3 := HXr.out.cell (i := 3) (v := .slice P1 px.length d2) rfl
                              have y0 := HRr.out.cell (i := 0) (v := .int .i64 0) rfl
                              have y1 := HRr.out.cell (i := 1) (v := .string ⟨#[]⟩) rfl
                              have y2 := HRr.out.cell (i := 2) (v := .slice none 0 0) rfl
                              have y3 := HRr.out.cell (i := 3) (v := .slice none 0 0) rfl
                              have fq := HXr.out.free
                              have fy := HRr.out.free
                              clear HD
                              obtain ⟨i0, hi, hi0, hi1, hi2⟩ := info_parts infoStr
                              have HE0 : Hid ((w9.alloc (.cells #[] 9)).ownsRow w9.heap.size 9 1 (.slice (some ⟨w9.heap.size, 0, none⟩) 0 0) 0 []) := Lib.hid (by have h1 := World.ownsRow_made (base := w9.heap.size) (e := 9) (size := 1) w9 #[] 0 (Nat.le_refl _) (by decide) (by simp); simpa using h1)
                              have HFL : Hid (Rds (w9.alloc (.cells #[] 9)) 1 (.slice T1 tx.length d1) tx.length (tx.map fun s => Value.string ⟨s.toArray⟩)) := Lib.hid (Rds.below (HXA.out.tx) (new_ (Below.refl _ _) _))
                              go_wp2_with (first
                                | (at_builtin; (refine wpList_append_rds rfl (.tmp 108) (.tmp 110) 22 rfl w9.heap.size 9 i0 (.string ⟨#[]⟩) 1 16 Tryd.underlying22 hi hi0 hi1 hi2 rfl (by decide) (.slice (some ⟨w9.heap.size, 0, none⟩) 0 0) 0 [] (by rfl) HE0.out (.slice T1 tx.length d1) tx.length (tx.map fun s => Value.string ⟨s.toArray⟩) (by rfl) HFL.out str_ones (by unfold maxLen; omega) (by omega) (by simp) ?_; intro v2 w2 ho2 hg2; rw [Nat.zero_add, List.nil_append] at ho2; have HO2 := Lib.hid ho2; have HG2 := Lib.hid hg2; have hz2 := hg2.size; obtain ⟨VA, vc, rfl, _⟩ := own_form ho2; clear ho2 hg2))
                                | (at_builtin; (refine wpList_append_own _ rfl (.tmp 111) (.tmp 113) 22 rfl w9.heap.size 9 i0 (.string ⟨#[]⟩) 1 16 Tryd.underlying22 hi hi0 hi1 hi2 rfl (by decide) (.slice VA tx.length vc) tx.length (tx.map fun s => Value.string ⟨s.toArray⟩) (by rfl) (ca_own_alloc HO2.out _) ⟨w2.heap.size, 0, none⟩ 1 1 [.string ⟨sw.toArray⟩] rfl rfl (cells_of' _ _ _ _ rfl rfl) (by simp [Value.oneCell']) (by unfold maxLen; omega) (by omega) (by simp at hz2; simp; omega) ?_; intro v3 w3 ho3 hg3 _; obtain ⟨V3, vc3, rfl, _⟩ := own_form ho3; have HO3 := Lib.hid ho3; have HB3a := Lib.hid (app_below HG2.out HO2.out hg3); clear ho3 hg3; replace HXA := Lib.hid (HXA.out.below HB3a.out); replace HXr := Lib.hid (HXr.out.below HB3a.out lxr); replace HRr := Lib.hid (HRr.out.below HB3a.out lrr); replace HBr := Lib.hid (then_ HBr.out HB3a.out); clear q0 q1 q2 q3 y0 y1 y2 y3 fq fy lxr lrr; have lxr := HXr.out.lt; have lrr := HRr.out.lt; have q0 := HXr.out.cell (i := 0) (v := .int .i64 (k : Nat)) rfl; have q1 := HXr.out.cell (i := 1) (v := .string ⟨l.toArray⟩) rfl; have q2 := HXr.out.cell (i := 2) (v := .slice T1 tx.length d1) rfl; have q3 := HXr.out.cell (i := 3) (v := .slice P1 px.length d2) rfl; have fq := HXr.out.free; have y0 := HRr.out.cell (i := 0) (v := .int .i64 0) rfl; have y1 := HRr.out.cell (i := 1) (v := .string ⟨#[]⟩) rfl; have y2 := HRr.out.cell (i := 2) (v := .slice none 0 0) rfl; have y3 := HRr.out.cell (i := 3) (v := .slice none 0 0) rfl; have fy := HRr.out.free))
                                | fail)
                              go_roundw
                              case rel => exact ⟨j + 1, k, false, l, tx ++ [sw], px, _, _, by go_num, rfl, HXr.out.set 2 _, HRr.out.other (p := ⟨w.heap.size + 1, 2, none⟩) hne' _, xat_text HXA.out HXr.out HO3.out _, HBr.out.setCell (p := ⟨w.heap.size + 1, 2, none⟩) (Nat.le_succ _) _, by omega, HQ.out, by omega, by simpa using hm3, n1, n2, fun h => nomatch h⟩
                              case measure => simp [intOf]; omega
                · have HQ : Hid (R = .inr (ws.length, 16)) := Lib.hid (by rw [← HRUN.out, prun_end (by omega), show j = ws.length by omega])
                  go_wp2_with fail
                  rw [HQ.out]
                  exact stm_end (x := ⟨(k : Nat), l, tx, px⟩) (tv := .slice T1 tx.length d1) (pv := .slice P1 px.length d2) (j := ws.length) rfl rfl rfl HRr.out HXA.out HBr.out (Nat.le_refl _) ⟨rfl, rfl, by decide⟩
        · have e1 : decide ((ws.length : Int) ≤ (i : Int) + 1) = true := decide_eq_true (by omega)
          have HQ : Hid (R = .inr (ws.length, 16)) := Lib.hid (by rw [← HGO.out, prun_end (by omega)]; rw [show i + 1 = ws.length by omega])
          go_wp2
          rw [HQ.out]
          exact stm_end (x := ⟨0, [], [], []⟩) (tv := .slice none 0 0) (pv := .slice none 0 0) rfl rfl rfl HR3.out (XAt.nil w3 0 []) HB3.out (Nat.le_refl _) ⟨rfl, rfl, by decide⟩
  · have e0 : ((kt : Int) != 0) = true := by simp; omega
    cases lb with
    | true =>
      have HQ : Hid (R = .inr (i, 51)) := Lib.hid (by rw [← HR.out]; exact prun_bad HT.out (ps_b_lab (by rw [HKT.out]; exact hk0) (by rw [HKT.out]; exact HLB.out)))
      clear hk0
      go_wp2
      rw [HQ.out]
      exact stm_end (x := ⟨0, [], [], []⟩) (tv := .slice none 0 0) (pv := .slice none 0 0) rfl rfl rfl HR2.out (XAt.nil w2 0 []) HB2.out (Nat.le_refl _) ⟨rfl, rfl, by decide⟩
    | false =>
      go_upto_region 21 with fail
      obtain ⟨W6, hW6⟩ : ∃ W6, W6 = w2.setCell ⟨w.heap.size + 1, 0, none⟩ (.int .i64 (kt : Nat)) := ⟨_, rfl⟩
      rw [← hW6]
      have HX6 := Lib.hid (show Row W6 (w.heap.size + 1) 34 #[.int .i64 (kt : Nat), .string ⟨#[]⟩, .slice none 0 0, .slice none 0 0] by rw [hW6]; exact HX2.out.set 0 _)
      have HR6 := Lib.hid (show Row W6 w.heap.size 34 #[.int .i64 0, .string ⟨#[]⟩, .slice none 0 0, .slice none 0 0] by rw [hW6]; exact HR2.out.other (p := ⟨w.heap.size + 1, 0, none⟩) hne' _)
      have HB6 := Lib.hid (show Below w.heap.size w W6 by rw [hW6]; exact HB2.out.setCell (p := ⟨w.heap.size + 1, 0, none⟩) (Nat.le_succ _) _)
      clear q0 q1 q2 q3 y0 y1 y2 y3 fq fy hW6 lR lX
      have lR6 := HR6.out.lt
      have lX6 := HX6.out.lt
      have q0 := HX6.out.cell (i := 0) (v := .int .i64 (kt : Nat)) rfl
      have q1 := HX6.out.cell (i := 1) (v := .string ⟨#[]⟩) rfl
      have q2 := HX6.out.cell (i := 2) (v := .slice none 0 0) rfl
      have q3 := HX6.out.cell (i := 3) (v := .slice none 0 0) rfl
      have y0 := HR6.out.cell (i := 0) (v := .int .i64 0) rfl
      have y1 := HR6.out.cell (i := 1) (v := .string ⟨#[]⟩) rfl
      have y2 := HR6.out.cell (i := 2) (v := .slice none 0 0) rfl
      have y3 := HR6.out.cell (i := 3) (v := .slice none 0 0) rfl
      have fq := HX6.out.free
      have fy := HR6.out.free
      by_cases h89 : mostS kt = 0
      · have HQ : Hid (R = .inl (⟨kt, [], [], []⟩, i + 1)) := Lib.hid (by
          rw [← HR.out]
          have := prun_done (at_ := i) HT.out (ps_b_one (by rw [HKT.out]; exact hk0) (by rw [HKT.out]; exact HLB.out) (by rw [HKT.out]; exact h89))
          rw [HKT.out] at this
          exact this)
        have hk89 : kt = 8 ∨ kt = 9 := by
          unfold mostS at h89
          split at h89
          · cases h89
          · split at h89
            · omega
            · cases h89
        rcases hk89 with rfl | rfl
        all_goals
          clear hk0 h89
          go_wp2
          rw [HQ.out]
          exact stm_end (x := ⟨_, [], [], []⟩) (tv := .slice none 0 0) (pv := .slice none 0 0) (j := i + 1) rfl rfl rfl HR6.out (XAt.nil W6 _ []) HB6.out (Nat.le_refl _) ⟨rfl, rfl, rfl⟩
      · have hk89 : kt ≠ 8 ∧ kt ≠ 9 := by
          constructor <;> (rintro rfl; exact h89 rfl)
        have e8 : ((kt : Int) == 8) = false := by simp; omega
        have e9 : ((kt : Int) == 9) = false := by simp; omega
        have HRUN : Hid (prun i (.text ⟨kt, [], [], []⟩) (i + 1) (ws.drop (i + 1)) = R) := Lib.hid (by
          rw [← HR.out]
          have := prun_go (at_ := i) HT.out (ps_b_text (by rw [HKT.out]; exact hk0) (by rw [HKT.out]; exact HLB.out) (by rw [HKT.out]; exact h89))
          rw [HKT.out] at this
          exact this.symm)
        have m1 : 1 ≤ kt := by omega
        have m2 : kt ≤ 7 := by omega
        clear hk0 e0 h89 hk89
        clear q0 q1 q2 q3 y0 y1 y2 y3 fq fy lR6 lX6
        have HREL : Hid (StmRel w ws R i (.int .i64 ((i + 1 : Nat) : Int)) (.bool false) W6) := Lib.hid ⟨i + 1, kt, false, [], [], [], .slice none 0 0, .slice none 0 0, rfl, rfl, HX6.out, HR6.out, XAt.nil _ _ _, HB6.out, by omega, HRUN.out, Nat.zero_le _, Nat.zero_le _, m1, m2, fun h => nomatch h⟩
        have q0 := HX6.out.cell (i := 0) (v := .int .i64 (kt : Nat)) rfl
        have q1 := HX6.out.cell (i := 1) (v := .string ⟨([] : List UInt8).toArray⟩) rfl
        have q2 := HX6.out.cell (i := 2) (v := .slice none 0 0) rfl
        have q3 := HX6.out.cell (i := 3) (v := .slice none 0 0) rfl
        have y0 := HR6.out.cell (i := 0) (v := .int .i64 0) rfl
        have y1 := HR6.out.cell (i := 1) (v := .string ⟨#[]⟩) rfl
        have y2 := HR6.out.cell (i := 2) (v := .slice none 0 0) rfl
        have y3 := HR6.out.cell (i := 3) (v := .slice none 0 0) rfl
        have fq := HX6.out.free
        have fy := HR6.out.free
        go_wp2_with fail
        go_loopw [1, 10] (StmRel w ws R i) (fun iv _ _ => ws.length - (intOf iv).toNat)
        case atStart => exact HREL.out
        case round =>
          obtain ⟨j, k, pf, l, tx, px, tv, pv, rfl, rfl, hx, hr, hxa, hbl, hjl, hrun, hp2, ht2, n1, n2, hpf⟩ := hrel
          obtain ⟨⟨T1, d1, rfl⟩, P1, d2, rfl⟩ := xat_form hxa
          clear q0 q1 q2 q3 y0 y1 y2 y3 fq fy HREL HX6 HR6 HB6 HRUN m1 m2
          have ht200 := mostS_le k
          have HXr := Lib.hid hx
          have HRr := Lib.hid hr
          have HXA := Lib.hid hxa
          have HBr := Lib.hid hbl
          have HRUN := Lib.hid hrun
          have HPF := Lib.hid hpf
          clear hx hr hxa hbl hrun hpf
          have lxr := HXr.out.lt
          have lrr := HRr.out.lt
          have q0 := HXr.out.cell (i := 0) (v := .int .i64 (k : Nat)) rfl
          have q1 := HXr.out.cell (i := 1) (v := .string ⟨l.toArray⟩) rfl
          have q2 := HXr.out.cell (i := 2) (v := .slice T1 tx.length d1) rfl
          have q3 := HXr.out.cell (i := 3) (v := .slice P1 px.length d2) rfl
          have y0 := HRr.out.cell (i := 0) (v := .int .i64 0) rfl
          have y1 := HRr.out.cell (i := 1) (v := .string ⟨#[]⟩) rfl
          have y2 := HRr.out.cell (i := 2) (v := .slice none 0 0) rfl
          have y3 := HRr.out.cell (i := 3) (v := .slice none 0 0) rfl
          have fq := HXr.out.free
          have fy := HRr.out.free
          by_cases hlt : j < ws.length
          · obtain ⟨sw, hsw⟩ : ∃ sw, ws[j]? = some sw := ⟨_, List.getElem?_eq_getElem hlt⟩
            have gj : wr.cell? ⟨b, o + j, none⟩ = some (.string ⟨sw.toArray⟩) := by
              obtain ⟨b', o', e', g'⟩ := HXX.out j sw hsw
              cases e'
              exact (HBr.out.cell (p := ⟨b, o + j, none⟩) hlb).trans g'
            have HS := Lib.hid hsw
            have HSL := Lib.hid (HSZ.out sw (List.mem_of_getElem? hsw))
            clear hsw
            have j0 : (0 : Int) ≤ (j : Int) := by omega
            have j1 : (j : Int) < (ws.length : Int) := by omega
            by_cases h46 : sw = [36, 46]
            · subst h46
              cases pf with
              | true =>
                have H7 := Lib.hid (HPF.out rfl)
                have e7 : ((k : Int) == 7) = true := by rw [H7.out]; rfl
                have HQ : Hid (R = .inl (⟨k, l, tx, px⟩, j + 1)) := Lib.hid (by rw [← HRUN.out]; exact prun_done HS.out (ps_p_done rfl))
                go_wp2_with fail
                go_quiet (fail)
                generalize hW9 : wr.drewN _ = w7
                have HD : Hid (Below wr.heap.size wr w7) := Lib.hid (by rw [← hW9]; exact below_drewN (Below.refl _ _) _)
                clear hW9
                replace HXA := Lib.hid (HXA.out.below HD.out)
                replace HXr := Lib.hid (HXr.out.below HD.out lxr)
                replace HRr := Lib.hid (HRr.out.below HD.out lrr)
                replace HBr := Lib.hid (then_ HBr.out HD.out)
                clear q0 q1 q2 q3 y0 y1 y2 y3 fq fy lxr lrr
                have lxr := HXr.out.lt
                have lrr := HRr.out.lt
                have q0 := HXr.out.cell (i := 0) (v := .int .i64 (k : Nat)) rfl
                have q1 := HXr.out.cell (i := 1) (v := .string ⟨l.toArray⟩) rfl
                have q2 := HXr.out.cell (i := 2) (v := .slice T1 tx.length d1) rfl
                have q3 := HXr.out.cell (i := 3) (v := .slice P1 px.length d2) rfl
                have y0 := HRr.out.cell (i := 0) (v := .int .i64 0) rfl
                have y1 := HRr.out.cell (i := 1) (v := .string ⟨#[]⟩) rfl
                have y2 := HRr.out.cell (i := 2) (v := .slice none 0 0) rfl
                have y3 := HRr.out.cell (i := 3) (v := .slice none 0 0) rfl
                have fq := HXr.out.free
                have fy := HRr.out.free
                clear HD
                go_wp2_with fail
                rw [HQ.out]
                exact stm_end (x := ⟨(k : Nat), l, tx, px⟩) (tv := .slice T1 tx.length d1) (pv := .slice P1 px.length d2) (j := j + 1) rfl rfl rfl HRr.out HXA.out HBr.out (Nat.le_refl _) ⟨rfl, rfl, rfl⟩
              | false =>
                by_cases hs : tx.length < leastS k
                · have e29 : decide ((tx.length : Int) < (leastS (k : Nat) : Nat)) = true := decide_eq_true (by omega)
                  have HQ : Hid (R = .inr (j, 53)) := Lib.hid (by rw [← HRUN.out]; exact prun_bad HS.out (ps_t_short (.inl rfl) hs))
                  go_wp2_with fail
                  go_quiet ((go_at_call 83; exact Calls.quiet_of_same ((ref_least _ _).mono fun _ _ h => ⟨h.1, h.2.symm⟩)))
                  generalize hW9 : wr.drewN _ = w7
                  have HD : Hid (Below wr.heap.size wr w7) := Lib.hid (by rw [← hW9]; exact below_drewN (Below.refl _ _) _)
                  clear hW9
                  replace HXA := Lib.hid (HXA.out.below HD.out)
                  replace HXr := Lib.hid (HXr.out.below HD.out lxr)
                  replace HRr := Lib.hid (HRr.out.below HD.out lrr)
                  replace HBr := Lib.hid (then_ HBr.out HD.out)
                  clear q0 q1 q2 q3 y0 y1 y2 y3 fq fy lxr lrr
                  have lxr := HXr.out.lt
                  have lrr := HRr.out.lt
                  have q0 := HXr.out.cell (i := 0) (v := .int .i64 (k : Nat)) rfl
                  have q1 := HXr.out.cell (i := 1) (v := .string ⟨l.toArray⟩) rfl
                  have q2 := HXr.out.cell (i := 2) (v := .slice T1 tx.length d1) rfl
                  have q3 := HXr.out.cell (i := 3) (v := .slice P1 px.length d2) rfl
                  have y0 := HRr.out.cell (i := 0) (v := .int .i64 0) rfl
                  have y1 := HRr.out.cell (i := 1) (v := .string ⟨#[]⟩) rfl
                  have y2 := HRr.out.cell (i := 2) (v := .slice none 0 0) rfl
                  have y3 := HRr.out.cell (i := 3) (v := .slice none 0 0) rfl
                  have fq := HXr.out.free
                  have fy := HRr.out.free
                  clear HD
                  go_wp2_with fail
                  rw [HQ.out]
                  exact stm_end (x := ⟨(k : Nat), l, tx, px⟩) (tv := .slice T1 tx.length d1) (pv := .slice P1 px.length d2) (j := j) rfl rfl rfl HRr.out HXA.out HBr.out (Nat.le_refl _) ⟨rfl, rfl, by decide⟩
                · have e29 : decide ((tx.length : Int) < (leastS (k : Nat) : Nat)) = false := decide_eq_false (by omega)
                  by_cases h7 : k = 7
                  · have H7 := Lib.hid h7
                    clear h7
                    have e7 : ((k : Int) == 7) = true := by rw [H7.out]; rfl
                    have HQ : Hid (R = .inr (j, 50)) := Lib.hid (by rw [← HRUN.out]; exact prun_bad HS.out (ps_t_noeq rfl (by show (k : Int) = 7; rw [H7.out]; rfl) hs))
                    go_wp2_with fail
                    go_quiet ((go_at_call 83; exact Calls.quiet_of_same ((ref_least _ _).mono fun _ _ h => ⟨h.1, h.2.symm⟩)))
                    generalize hW9 : wr.drewN _ = w7
                    have HD : Hid (Below wr.heap.size wr w7) := Lib.hid (by rw [← hW9]; exact below_drewN (Below.refl _ _) _)
                    clear hW9
                    replace HXA := Lib.hid (HXA.out.below HD.out)
                    replace HXr := Lib.hid (HXr.out.below HD.out lxr)
                    replace HRr := Lib.hid (HRr.out.below HD.out lrr)
                    replace HBr := Lib.hid (then_ HBr.out HD.out)
                    clear q0 q1 q2 q3 y0 y1 y2 y3 fq fy lxr lrr
                    have lxr := HXr.out.lt
                    have lrr := HRr.out.lt
                    have q0 := HXr.out.cell (i := 0) (v := .int .i64 (k : Nat)) rfl
                    have q1 := HXr.out.cell (i := 1) (v := .string ⟨l.toArray⟩) rfl
                    have q2 := HXr.out.cell (i := 2) (v := .slice T1 tx.length d1) rfl
                    have q3 := HXr.out.cell (i := 3) (v := .slice P1 px.length d2) rfl
                    have y0 := HRr.out.cell (i := 0) (v := .int .i64 0) rfl
                    have y1 := HRr.out.cell (i := 1) (v := .string ⟨#[]⟩) rfl
                    have y2 := HRr.out.cell (i := 2) (v := .slice none 0 0) rfl
                    have y3 := HRr.out.cell (i := 3) (v := .slice none 0 0) rfl
                    have fq := HXr.out.free
                    have fy := HRr.out.free
                    clear HD
                    go_wp2_with fail
                    rw [HQ.out]
                    exact stm_end (x := ⟨(k : Nat), l, tx, px⟩) (tv := .slice T1 tx.length d1) (pv := .slice P1 px.length d2) (j := j) rfl rfl rfl HRr.out HXA.out HBr.out (Nat.le_refl _) ⟨rfl, rfl, by decide⟩
                  · have e7 : ((k : Int) == 7) = false := by simp; omega
                    have H7 := Lib.hid h7
                    clear h7
                    have HQ : Hid (R = .inl (⟨k, l, tx, px⟩, j + 1)) := Lib.hid (by rw [← HRUN.out]; exact prun_done HS.out (ps_t_done rfl (by show ((k : Int) ≠ 7); have := H7.out; omega) hs))
                    go_wp2_with fail
                    go_quiet ((go_at_call 83; exact Calls.quiet_of_same ((ref_least _ _).mono fun _ _ h => ⟨h.1, h.2.symm⟩)))
                    generalize hW9 : wr.drewN _ = w7
                    have HD : Hid (Below wr.heap.size wr w7) := Lib.hid (by rw [← hW9]; exact below_drewN (Below.refl _ _) _)
                    clear hW9
                    replace HXA := Lib.hid (HXA.out.below HD.out)
                    replace HXr := Lib.hid (HXr.out.below HD.out lxr)
                    replace HRr := Lib.hid (HRr.out.below HD.out lrr)
                    replace HBr := Lib.hid (then_ HBr.out HD.out)
                    clear q0 q1 q2 q3 y0 y1 y2 y3 fq fy lxr lrr
                    have lxr := HXr.out.lt
                    have lrr := HRr.out.lt
                    have q0 := HXr.out.cell (i := 0) (v := .int .i64 (k : Nat)) rfl
                    have q1 := HXr.out.cell (i := 1) (v := .string ⟨l.toArray⟩) rfl
                    have q2 := HXr.out.cell (i := 2) (v := .slice T1 tx.length d1) rfl
                    have q3 := HXr.out.cell (i := 3) (v := .slice P1 px.length d2) rfl
                    have y0 := HRr.out.cell (i := 0) (v := .int .i64 0) rfl
                    have y1 := HRr.out.cell (i := 1) (v := .string ⟨#[]⟩) rfl
                    have y2 := HRr.out.cell (i := 2) (v := .slice none 0 0) rfl
                    have y3 := HRr.out.cell (i := 3) (v := .slice none 0 0) rfl
                    have fq := HXr.out.free
                    have fy := HRr.out.free
                    clear HD
                    go_wp2_with fail
                    rw [HQ.out]
                    exact stm_end (x := ⟨(k : Nat), l, tx, px⟩) (tv := .slice T1 tx.length d1) (pv := .slice P1 px.length d2) (j := j + 1) rfl rfl rfl HRr.out HXA.out HBr.out (Nat.le_refl _) ⟨rfl, rfl, rfl⟩
            · have b46 : (sw == [36, 46]) = false := by simpa using h46
              by_cases h61 : sw = [36, 61]
              · subst h61
                cases pf with
                | true =>
                  have H7 := Lib.hid (HPF.out rfl)
                  have e7 : ((k : Int) == 7) = true := by rw [H7.out]; rfl
                  have HQ : Hid (R = .inr (j, 50)) := Lib.hid (by rw [← HRUN.out]; exact prun_bad HS.out (ps_p_kw h46 (by decide)))
                  go_wp2_with fail
                  go_quiet (fail)
                  generalize hW9 : wr.drewN _ = w7
                  have HD : Hid (Below wr.heap.size wr w7) := Lib.hid (by rw [← hW9]; exact below_drewN (Below.refl _ _) _)
                  clear hW9
                  replace HXA := Lib.hid (HXA.out.below HD.out)
                  replace HXr := Lib.hid (HXr.out.below HD.out lxr)
                  replace HRr := Lib.hid (HRr.out.below HD.out lrr)
                  replace HBr := Lib.hid (then_ HBr.out HD.out)
                  clear q0 q1 q2 q3 y0 y1 y2 y3 fq fy lxr lrr
                  have lxr := HXr.out.lt
                  have lrr := HRr.out.lt
                  have q0 := HXr.out.cell (i := 0) (v := .int .i64 (k : Nat)) rfl
                  have q1 := HXr.out.cell (i := 1) (v := .string ⟨l.toArray⟩) rfl
                  have q2 := HXr.out.cell (i := 2) (v := .slice T1 tx.length d1) rfl
                  have q3 := HXr.out.cell (i := 3) (v := .slice P1 px.length d2) rfl
                  have y0 := HRr.out.cell (i := 0) (v := .int .i64 0) rfl
                  have y1 := HRr.out.cell (i := 1) (v := .string ⟨#[]⟩) rfl
                  have y2 := HRr.out.cell (i := 2) (v := .slice none 0 0) rfl
                  have y3 := HRr.out.cell (i := 3) (v := .slice none 0 0) rfl
                  have fq := HXr.out.free
                  have fy := HRr.out.free
                  clear HD
                  go_wp2_with fail
                  refine (ref_isKw _ _).mono ?_
                  rw [show isKw [36, 61] = true by decide]
                  rintro e w8 ⟨rfl, hb8⟩
                  have HB8 : Hid (Below w7.heap.size w7 w8) := Lib.hid hb8
                  clear hb8
                  replace HXA := Lib.hid (HXA.out.below HB8.out)
                  replace HXr := Lib.hid (HXr.out.below HB8.out lxr)
                  replace HRr := Lib.hid (HRr.out.below HB8.out lrr)
                  replace HBr := Lib.hid (then_ HBr.out HB8.out)
                  clear q0 q1 q2 q3 y0 y1 y2 y3 fq fy lxr lrr
                  have lxr := HXr.out.lt
                  have lrr := HRr.out.lt
                  have q0 := HXr.out.cell (i := 0) (v := .int .i64 (k : Nat)) rfl
                  have q1 := HXr.out.cell (i := 1) (v := .string ⟨l.toArray⟩) rfl
                  have q2 := HXr.out.cell (i := 2) (v := .slice T1 tx.length d1) rfl
                  have q3 := HXr.out.cell (i := 3) (v := .slice P1 px.length d2) rfl
                  have y0 := HRr.out.cell (i := 0) (v := .int .i64 0) rfl
                  have y1 := HRr.out.cell (i := 1) (v := .string ⟨#[]⟩) rfl
                  have y2 := HRr.out.cell (i := 2) (v := .slice none 0 0) rfl
                  have y3 := HRr.out.cell (i := 3) (v := .slice none 0 0) rfl
                  have fq := HXr.out.free
                  have fy := HRr.out.free
                  go_wp2_with fail
                  rw [HQ.out]
                  exact stm_end (x := ⟨(k : Nat), l, tx, px⟩) (tv := .slice T1 tx.length d1) (pv := .slice P1 px.length d2) (j := j) rfl rfl rfl HRr.out HXA.out HBr.out (Nat.le_refl _) ⟨rfl, rfl, by decide⟩
                | false =>
                  by_cases h7 : k = 7
                  · have H7 := Lib.hid h7
                    clear h7
                    have e7 : ((k : Int) == 7) = true := by rw [H7.out]; rfl
                    by_cases hs : tx.length < leastS k
                    · have e29 : decide ((tx.length : Int) < (leastS (k : Nat) : Nat)) = true := decide_eq_true (by omega)
                      have HQ : Hid (R = .inr (j, 53)) := Lib.hid (by rw [← HRUN.out]; exact prun_bad HS.out (ps_t_short (.inr ⟨rfl, by show (k : Int) = 7; rw [H7.out]; rfl⟩) hs))
                      go_wp2_with fail
                      go_quiet ((go_at_call 83; exact Calls.quiet_of_same ((ref_least _ _).mono fun _ _ h => ⟨h.1, h.2.symm⟩)))
                      generalize hW9 : wr.drewN _ = w7
                      have HD : Hid (Below wr.heap.size wr w7) := Lib.hid (by rw [← hW9]; exact below_drewN (Below.refl _ _) _)
                      clear hW9
                      replace HXA := Lib.hid (HXA.out.below HD.out)
                      replace HXr := Lib.hid (HXr.out.below HD.out lxr)
                      replace HRr := Lib.hid (HRr.out.below HD.out lrr)
                      replace HBr := Lib.hid (then_ HBr.out HD.out)
                      clear q0 q1 q2 q3 y0 y1 y2 y3 fq fy lxr lrr
                      have lxr := HXr.out.lt
                      have lrr := HRr.out.lt
                      have q0 := HXr.out.cell (i := 0) (v := .int .i64 (k : Nat)) rfl
                      have q1 := HXr.out.cell (i := 1) (v := .string ⟨l.toArray⟩) rfl
                      have q2 := HXr.out.cell (i := 2) (v := .slice T1 tx.length d1) rfl
                      have q3 := HXr.out.cell (i := 3) (v := .slice P1 px.length d2) rfl
                      have y0 := HRr.out.cell (i := 0) (v := .int .i64 0) rfl
                      have y1 := HRr.out.cell (i := 1) (v := .string ⟨#[]⟩) rfl
                      have y2 := HRr.out.cell (i := 2) (v := .slice none 0 0) rfl
                      have y3 := HRr.out.cell (i := 3) (v := .slice none 0 0) rfl
                      have fq := HXr.out.free
                      have fy := HRr.out.free
                      clear HD
                      go_wp2_with fail
                      rw [HQ.out]
                      exact stm_end (x := ⟨(k : Nat), l, tx, px⟩) (tv := .slice T1 tx.length d1) (pv := .slice P1 px.length d2) (j := j) rfl rfl rfl HRr.out HXA.out HBr.out (Nat.le_refl _) ⟨rfl, rfl, by decide⟩
                    · have e29 : decide ((tx.length : Int) < (leastS (k : Nat) : Nat)) = false := decide_eq_false (by omega)
                      have HQ := Lib.hid ((prun_go (at_ := i) HS.out (ps_t_proof rfl (by show (k : Int) = 7; rw [H7.out]; rfl) hs)).symm.trans HRUN.out)
                      go_wp2_with fail
                      go_quiet ((go_at_call 83; exact Calls.quiet_of_same ((ref_least _ _).mono fun _ _ h => ⟨h.1, h.2.symm⟩)))
                      generalize hW9 : wr.drewN _ = w7
                      have HD : Hid (Below wr.heap.size wr w7) := Lib.hid (by rw [← hW9]; exact below_drewN (Below.refl _ _) _)
                      clear hW9
                      replace HXA := Lib.hid (HXA.out.below HD.out)
                      replace HXr := Lib.hid (HXr.out.below HD.out lxr)
                      replace HRr := Lib.hid (HRr.out.below HD.out lrr)
                      replace HBr := Lib.hid (then_ HBr.out HD.out)
                      clear q0 q1 q2 q3 y0 y1 y2 y3 fq fy lxr lrr
                      have lxr := HXr.out.lt
                      have lrr := HRr.out.lt
                      have q0 := HXr.out.cell (i := 0) (v := .int .i64 (k : Nat)) rfl
                      have q1 := HXr.out.cell (i := 1) (v := .string ⟨l.toArray⟩) rfl
                      have q2 := HXr.out.cell (i := 2) (v := .slice T1 tx.length d1) rfl
                      have q3 := HXr.out.cell (i := 3) (v := .slice P1 px.length d2) rfl
                      have y0 := HRr.out.cell (i := 0) (v := .int .i64 0) rfl
                      have y1 := HRr.out.cell (i := 1) (v := .string ⟨#[]⟩) rfl
                      have y2 := HRr.out.cell (i := 2) (v := .slice none 0 0) rfl
                      have y3 := HRr.out.cell (i := 3) (v := .slice none 0 0) rfl
                      have fq := HXr.out.free
                      have fy := HRr.out.free
                      clear HD
                      go_wp2_with fail
                      go_roundw
                      case rel => exact ⟨j + 1, k, true, l, tx, px, _, _, by go_num, rfl, HXr.out, HRr.out, HXA.out, HBr.out, by omega, HQ.out, by omega, ht2, n1, n2, fun _ => H7.out⟩
                      case measure => simp [intOf]; omega
                  · have e7 : ((k : Int) == 7) = false := by simp; omega
                    have H7 := Lib.hid h7
                    clear h7
                    have HQ : Hid (R = .inr (j, 50)) := Lib.hid (by rw [← HRUN.out]; exact prun_bad HS.out (ps_t_kw (by rintro (h | ⟨_, h⟩); exact h46 h; exact H7.out (by have h' : ((k : Nat) : Int) = 7 := h; omega)) (by decide)))
                    go_wp2_with fail
                    go_quiet (fail)
                    generalize hW9 : wr.drewN _ = w7
                    have HD : Hid (Below wr.heap.size wr w7) := Lib.hid (by rw [← hW9]; exact below_drewN (Below.refl _ _) _)
                    clear hW9
                    replace HXA := Lib.hid (HXA.out.below HD.out)
                    replace HXr := Lib.hid (HXr.out.below HD.out lxr)
                    replace HRr := Lib.hid (HRr.out.below HD.out lrr)
                    replace HBr := Lib.hid (then_ HBr.out HD.out)
                    clear q0 q1 q2 q3 y0 y1 y2 y3 fq fy lxr lrr
                    have lxr := HXr.out.lt
                    have lrr := HRr.out.lt
                    have q0 := HXr.out.cell (i := 0) (v := .int .i64 (k : Nat)) rfl
                    have q1 := HXr.out.cell (i := 1) (v := .string ⟨l.toArray⟩) rfl
                    have q2 := HXr.out.cell (i := 2) (v := .slice T1 tx.length d1) rfl
                    have q3 := HXr.out.cell (i := 3) (v := .slice P1 px.length d2) rfl
                    have y0 := HRr.out.cell (i := 0) (v := .int .i64 0) rfl
                    have y1 := HRr.out.cell (i := 1) (v := .string ⟨#[]⟩) rfl
                    have y2 := HRr.out.cell (i := 2) (v := .slice none 0 0) rfl
                    have y3 := HRr.out.cell (i := 3) (v := .slice none 0 0) rfl
                    have fq := HXr.out.free
                    have fy := HRr.out.free
                    clear HD
                    go_wp2_with fail
                    refine (ref_isKw _ _).mono ?_
                    rw [show isKw [36, 61] = true by decide]
                    rintro e w8 ⟨rfl, hb8⟩
                    have HB8 : Hid (Below w7.heap.size w7 w8) := Lib.hid hb8
                    clear hb8
                    replace HXA := Lib.hid (HXA.out.below HB8.out)
                    replace HXr := Lib.hid (HXr.out.below HB8.out lxr)
                    replace HRr := Lib.hid (HRr.out.below HB8.out lrr)
                    replace HBr := Lib.hid (then_ HBr.out HB8.out)
                    clear q0 q1 q2 q3 y0 y1 y2 y3 fq fy lxr lrr
                    have lxr := HXr.out.lt
                    have lrr := HRr.out.lt
                    have q0 := HXr.out.cell (i := 0) (v := .int .i64 (k : Nat)) rfl
                    have q1 := HXr.out.cell (i := 1) (v := .string ⟨l.toArray⟩) rfl
                    have q2 := HXr.out.cell (i := 2) (v := .slice T1 tx.length d1) rfl
                    have q3 := HXr.out.cell (i := 3) (v := .slice P1 px.length d2) rfl
                    have y0 := HRr.out.cell (i := 0) (v := .int .i64 0) rfl
                    have y1 := HRr.out.cell (i := 1) (v := .string ⟨#[]⟩) rfl
                    have y2 := HRr.out.cell (i := 2) (v := .slice none 0 0) rfl
                    have y3 := HRr.out.cell (i := 3) (v := .slice none 0 0) rfl
                    have fq := HXr.out.free
                    have fy := HRr.out.free
                    go_wp2_with fail
                    rw [HQ.out]
                    exact stm_end (x := ⟨(k : Nat), l, tx, px⟩) (tv := .slice T1 tx.length d1) (pv := .slice P1 px.length d2) (j := j) rfl rfl rfl HRr.out HXA.out HBr.out (Nat.le_refl _) ⟨rfl, rfl, by decide⟩
              · have b61 : (sw == [36, 61]) = false := by simpa using h61
                cases pf with
                | true =>
                  go_wp2_with fail
                  go_quiet (fail)
                  generalize hW9 : wr.drewN _ = w7
                  have HD : Hid (Below wr.heap.size wr w7) := Lib.hid (by rw [← hW9]; exact below_drewN (Below.refl _ _) _)
                  clear hW9
                  replace HXA := Lib.hid (HXA.out.below HD.out)
                  replace HXr := Lib.hid (HXr.out.below HD.out lxr)
                  replace HRr := Lib.hid (HRr.out.below HD.out lrr)
                  replace HBr := Lib.hid (then_ HBr.out HD.out)
                  clear q0 q1 q2 q3 y0 y1 y2 y3 fq fy lxr lrr
                  have lxr := HXr.out.lt
                  have lrr := HRr.out.lt
                  have q0 := HXr.out.cell (i := 0) (v := .int .i64 (k : Nat)) rfl
                  have q1 := HXr.out.cell (i := 1) (v := .string ⟨l.toArray⟩) rfl
                  have q2 := HXr.out.cell (i := 2) (v := .slice T1 tx.length d1) rfl
                  have q3 := HXr.out.cell (i := 3) (v := .slice P1 px.length d2) rfl
                  have y0 := HRr.out.cell (i := 0) (v := .int .i64 0) rfl
                  have y1 := HRr.out.cell (i := 1) (v := .string ⟨#[]⟩) rfl
                  have y2 := HRr.out.cell (i := 2) (v := .slice none 0 0) rfl
                  have y3 := HRr.out.cell (i := 3) (v := .slice none 0 0) rfl
                  have fq := HXr.out.free
                  have fy := HRr.out.free
                  clear HD
                  go_wp2_with fail
                  refine (ref_isKw _ _).mono ?_
                  obtain ⟨bk, hbk⟩ : ∃ bk, isKw sw = bk := ⟨_, rfl⟩
                  rw [hbk]
                  have HBK := Lib.hid hbk
                  clear hbk
                  rintro e w8 ⟨rfl, hb8⟩
                  have HB8 : Hid (Below w7.heap.size w7 w8) := Lib.hid hb8
                  clear hb8
                  replace HXA := Lib.hid (HXA.out.below HB8.out)
                  replace HXr := Lib.hid (HXr.out.below HB8.out lxr)
                  replace HRr := Lib.hid (HRr.out.below HB8.out lrr)
                  replace HBr := Lib.hid (then_ HBr.out HB8.out)
                  clear q0 q1 q2 q3 y0 y1 y2 y3 fq fy lxr lrr
                  have lxr := HXr.out.lt
                  have lrr := HRr.out.lt
                  have q0 := HXr.out.cell (i := 0) (v := .int .i64 (k : Nat)) rfl
                  have q1 := HXr.out.cell (i := 1) (v := .string ⟨l.toArray⟩) rfl
                  have q2 := HXr.out.cell (i := 2) (v := .slice T1 tx.length d1) rfl
                  have q3 := HXr.out.cell (i := 3) (v := .slice P1 px.length d2) rfl
                  have y0 := HRr.out.cell (i := 0) (v := .int .i64 0) rfl
                  have y1 := HRr.out.cell (i := 1) (v := .string ⟨#[]⟩) rfl
                  have y2 := HRr.out.cell (i := 2) (v := .slice none 0 0) rfl
                  have y3 := HRr.out.cell (i := 3) (v := .slice none 0 0) rfl
                  have fq := HXr.out.free
                  have fy := HRr.out.free
                  cases bk with
                  | true =>
                    have HQ : Hid (R = .inr (j, 50)) := Lib.hid (by rw [← HRUN.out]; exact prun_bad HS.out (ps_p_kw h46 HBK.out))
                    go_wp2_with fail
                    rw [HQ.out]
                    exact stm_end (x := ⟨(k : Nat), l, tx, px⟩) (tv := .slice T1 tx.length d1) (pv := .slice P1 px.length d2) (j := j) rfl rfl rfl HRr.out HXA.out HBr.out (Nat.le_refl _) ⟨rfl, rfl, by decide⟩
                  | false =>
                    obtain ⟨bp, hbp⟩ : ∃ bp, prfS sw = bp := ⟨_, rfl⟩
                    have HBP := Lib.hid hbp
                    clear hbp
                    go_wp2_with fail
                    refine (ref_isProof _ sw HSL.out).mono ?_
                    rw [HBP.out]
                    rintro e w9 ⟨rfl, rfl⟩
                    cases bp with
                    | false =>
                      have HQ : Hid (R = .inr (j, 54)) := Lib.hid (by rw [← HRUN.out]; exact prun_bad HS.out (ps_p_bad h46 HBK.out HBP.out))
                      go_wp2_with fail
                      rw [HQ.out]
                      exact stm_end (x := ⟨(k : Nat), l, tx, px⟩) (tv := .slice T1 tx.length d1) (pv := .slice P1 px.length d2) (j := j) rfl rfl rfl HRr.out HXA.out HBr.out (Nat.le_refl _) ⟨rfl, rfl, by decide⟩
                    | true =>
                      have HQ := Lib.hid ((prun_go (at_ := i) HS.out (ps_p_add h46 HBK.out HBP.out)).symm.trans HRUN.out)
                      obtain ⟨i0, hi, hi0, hi1, hi2⟩ := info_parts infoStr
                      have HE0 : Hid ((w8.alloc (.cells #[] 9)).ownsRow w8.heap.size 9 1 (.slice (some ⟨w8.heap.size, 0, none⟩) 0 0) 0 []) := Lib.hid (by have h1 := World.ownsRow_made (base := w8.heap.size) (e := 9) (size := 1) w8 #[] 0 (Nat.le_refl _) (by decide) (by simp); simpa using h1)
                      have HFL : Hid (Rds (w8.alloc (.cells #[] 9)) 1 (.slice P1 px.length d2) px.length (px.map fun s => Value.string ⟨s.toArray⟩)) := Lib.hid (Rds.below (HXA.out.px) (new_ (Below.refl _ _) _))
                      go_wp2_with (first
                        | (at_builtin; (refine wpList_append_rds rfl (.tmp 175) (.tmp 177) 22 rfl w8.heap.size 9 i0 (.string ⟨#[]⟩) 1 16 Tryd.underlying22 hi hi0 hi1 hi2 rfl (by decide) (.slice (some ⟨w8.heap.size, 0, none⟩) 0 0) 0 [] (by rfl) HE0.out (.slice P1 px.length d2) px.length (px.map fun s => Value.string ⟨s.toArray⟩) (by rfl) HFL.out str_ones (by unfold maxLen; omega) (by omega) (by simp) ?_; intro v2 w2 ho2 hg2; rw [Nat.zero_add, List.nil_append] at ho2; have HO2 := Lib.hid ho2; have HG2 := Lib.hid hg2; have hz2 := hg2.size; obtain ⟨VA, vc, rfl, _⟩ := own_form ho2; clear ho2 hg2))
                        | (at_builtin; (refine wpList_append_own _ rfl (.tmp 178) (.tmp 180) 22 rfl w8.heap.size 9 i0 (.string ⟨#[]⟩) 1 16 Tryd.underlying22 hi hi0 hi1 hi2 rfl (by decide) (.slice VA px.length vc) px.length (px.map fun s => Value.string ⟨s.toArray⟩) (by rfl) (ca_own_alloc HO2.out _) ⟨w2.heap.size, 0, none⟩ 1 1 [.string ⟨sw.toArray⟩] rfl rfl (cells_of' _ _ _ _ rfl rfl) (by simp [Value.oneCell']) (by unfold maxLen; omega) (by omega) (by simp at hz2; simp; omega) ?_; intro v3 w3 ho3 hg3 _; obtain ⟨V3, vc3, rfl, _⟩ := own_form ho3; have HO3 := Lib.hid ho3; have HB3a := Lib.hid (app_below HG2.out HO2.out hg3); clear ho3 hg3; replace HXA := Lib.hid (HXA.out.below HB3a.out); replace HXr := Lib.hid (HXr.out.below HB3a.out lxr); replace HRr := Lib.hid (HRr.out.below HB3a.out lrr); replace HBr := Lib.hid (then_ HBr.out HB3a.out); clear q0 q1 q2 q3 y0 y1 y2 y3 fq fy lxr lrr; have lxr := HXr.out.lt; have lrr := HRr.out.lt; have q0 := HXr.out.cell (i := 0) (v := .int .i64 (k : Nat)) rfl; have q1 := HXr.out.cell (i := 1) (v := .string ⟨l.toArray⟩) rfl; have q2 := HXr.out.cell (i := 2) (v := .slice T1 tx.length d1) rfl; have q3 := HXr.out.cell (i := 3) (v := .slice P1 px.length d2) rfl; have fq := HXr.out.free; have y0 := HRr.out.cell (i := 0) (v := .int .i64 0) rfl; have y1 := HRr.out.cell (i := 1) (v := .string ⟨#[]⟩) rfl; have y2 := HRr.out.cell (i := 2) (v := .slice none 0 0) rfl; have y3 := HRr.out.cell (i := 3) (v := .slice none 0 0) rfl; have fy := HRr.out.free))
                        | fail)
                      go_roundw
                      case rel => exact ⟨j + 1, k, true, l, tx, px ++ [sw], _, _, by go_num, rfl, HXr.out.set 3 _, HRr.out.other (p := ⟨w.heap.size + 1, 3, none⟩) hne' _, xat_proof HXA.out HXr.out HO3.out _, HBr.out.setCell (p := ⟨w.heap.size + 1, 3, none⟩) (Nat.le_succ _) _, by omega, HQ.out, by simp; omega, ht2, n1, n2, fun _ => HPF.out trivial⟩
                      case measure => simp [intOf]; omega
                | false =>
                  have hno : ¬ (sw = [36, 46] ∨ sw = [36, 61] ∧ ((k : Nat) : Int) = 7) := fun h => h.elim h46 fun h => h61 h.1
                  go_wp2_with fail
                  go_quiet (fail)
                  generalize hW9 : wr.drewN _ = w7
                  have HD : Hid (Below wr.heap.size wr w7) := Lib.hid (by rw [← hW9]; exact below_drewN (Below.refl _ _) _)
                  clear hW9
                  replace HXA := Lib.hid (HXA.out.below HD.out)
                  replace HXr := Lib.hid (HXr.out.below HD.out lxr)
                  replace HRr := Lib.hid (HRr.out.below HD.out lrr)
                  replace HBr := Lib.hid (then_ HBr.out HD.out)
                  clear q0 q1 q2 q3 y0 y1 y2 y3 fq fy lxr lrr
                  have lxr := HXr.out.lt
                  have lrr := HRr.out.lt
                  have q0 := HXr.out.cell (i := 0) (v := .int .i64 (k : Nat)) rfl
                  have q1 := HXr.out.cell (i := 1) (v := .string ⟨l.toArray⟩) rfl
                  have q2 := HXr.out.cell (i := 2) (v := .slice T1 tx.length d1) rfl
                  have q3 := HXr.out.cell (i := 3) (v := .slice P1 px.length d2) rfl
                  have y0 := HRr.out.cell (i := 0) (v := .int .i64 0) rfl
                  have y1 := HRr.out.cell (i := 1) (v := .string ⟨#[]⟩) rfl
                  have y2 := HRr.out.cell (i := 2) (v := .slice none 0 0) rfl
                  have y3 := HRr.out.cell (i := 3) (v := .slice none 0 0) rfl
                  have fq := HXr.out.free
                  have fy := HRr.out.free
                  clear HD
                  go_wp2_with fail
                  refine (ref_isKw _ _).mono ?_
                  obtain ⟨bk, hbk⟩ : ∃ bk, isKw sw = bk := ⟨_, rfl⟩
                  rw [hbk]
                  have HBK := Lib.hid hbk
                  clear hbk
                  rintro e w8 ⟨rfl, hb8⟩
                  have HB8 : Hid (Below w7.heap.size w7 w8) := Lib.hid hb8
                  clear hb8
                  replace HXA := Lib.hid (HXA.out.below HB8.out)
                  replace HXr := Lib.hid (HXr.out.below HB8.out lxr)
                  replace HRr := Lib.hid (HRr.out.below HB8.out lrr)
                  replace HBr := Lib.hid (then_ HBr.out HB8.out)
                  clear q0 q1 q2 q3 y0 y1 y2 y3 fq fy lxr lrr
                  have lxr := HXr.out.lt
                  have lrr := HRr.out.lt
                  have q0 := HXr.out.cell (i := 0) (v := .int .i64 (k : Nat)) rfl
                  have q1 := HXr.out.cell (i := 1) (v := .string ⟨l.toArray⟩) rfl
                  have q2 := HXr.out.cell (i := 2) (v := .slice T1 tx.length d1) rfl
                  have q3 := HXr.out.cell (i := 3) (v := .slice P1 px.length d2) rfl
                  have y0 := HRr.out.cell (i := 0) (v := .int .i64 0) rfl
                  have y1 := HRr.out.cell (i := 1) (v := .string ⟨#[]⟩) rfl
                  have y2 := HRr.out.cell (i := 2) (v := .slice none 0 0) rfl
                  have y3 := HRr.out.cell (i := 3) (v := .slice none 0 0) rfl
                  have fq := HXr.out.free
                  have fy := HRr.out.free
                  cases bk with
                  | true =>
                    have HQ : Hid (R = .inr (j, 50)) := Lib.hid (by rw [← HRUN.out]; exact prun_bad HS.out (ps_t_kw hno HBK.out))
                    go_wp2_with fail
                    rw [HQ.out]
                    exact stm_end (x := ⟨(k : Nat), l, tx, px⟩) (tv := .slice T1 tx.length d1) (pv := .slice P1 px.length d2) (j := j) rfl rfl rfl HRr.out HXA.out HBr.out (Nat.le_refl _) ⟨rfl, rfl, by decide⟩
                  | false =>
                    obtain ⟨bs, hbs⟩ : ∃ bs, symB sw = bs := ⟨_, rfl⟩
                    have HBS := Lib.hid hbs
                    clear hbs
                    go_wp2_with fail
                    refine (ref_isSymbol _ sw HSL.out).mono ?_
                    rw [HBS.out]
                    rintro e w9 ⟨rfl, rfl⟩
                    cases bs with
                    | false =>
                      have HQ : Hid (R = .inr (j, 52)) := Lib.hid (by rw [← HRUN.out]; exact prun_bad HS.out (ps_t_sym hno HBK.out (of_decide_eq_false HBS.out)))
                      go_wp2_with fail
                      rw [HQ.out]
                      exact stm_end (x := ⟨(k : Nat), l, tx, px⟩) (tv := .slice T1 tx.length d1) (pv := .slice P1 px.length d2) (j := j) rfl rfl rfl HRr.out HXA.out HBr.out (Nat.le_refl _) ⟨rfl, rfl, by decide⟩
                    | true =>
                      by_cases hf : tx.length = mostS k
                      · have e45 : decide ((mostS (k : Nat) : Nat) ≤ (tx.length : Int)) = true := decide_eq_true (by omega)
                        have e46 : decide (mostS (k : Nat) ≤ tx.length) = true := decide_eq_true (by omega)
                        have e47 : mostS (k : Nat) ≤ tx.length := by omega
                        have HQ : Hid (R = .inr (j, 53)) := Lib.hid (by rw [← HRUN.out]; exact prun_bad HS.out (ps_t_full hno HBK.out (of_decide_eq_true HBS.out) hf))
                        clear hf ht2
                        go_wp2_with fail
                        go_quiet ((go_at_call 86; exact Calls.quiet_of_same ((ref_most _ _).mono fun _ _ h => ⟨h.1, h.2.symm⟩)))
                        generalize hW9 : w8.drewN _ = w9
                        have HD : Hid (Below w8.heap.size w8 w9) := Lib.hid (by rw [← hW9]; exact below_drewN (Below.refl _ _) _)
                        clear hW9
                        replace HXA := Lib.hid (HXA.out.below HD.out)
                        replace HXr := Lib.hid (HXr.out.below HD.out lxr)
                        replace HRr := Lib.hid (HRr.out.below HD.out lrr)
                        replace HBr := Lib.hid (then_ HBr.out HD.out)
                        clear q0 q1 q2 q3 y0 y1 y2 y3 fq fy lxr lrr
                        have lxr := HXr.out.lt
                        have lrr := HRr.out.lt
                        have q0 := HXr.out.cell (i := 0) (v := .int .i64 (k : Nat)) rfl
                        have q1 := HXr.out.cell (i := 1) (v := .string ⟨l.toArray⟩) rfl
                        have q2 := HXr.out.cell (i := 2) (v := .slice T1 tx.length d1) rfl
                        have q3 := HXr.out.cell (i := 3) (v := .slice P1 px.length d2) rfl
                        have y0 := HRr.out.cell (i := 0) (v := .int .i64 0) rfl
                        have y1 := HRr.out.cell (i := 1) (v := .string ⟨#[]⟩) rfl
                        have y2 := HRr.out.cell (i := 2) (v := .slice none 0 0) rfl
                        have y3 := HRr.out.cell (i := 3) (v := .slice none 0 0) rfl
                        have fq := HXr.out.free
                        have fy := HRr.out.free
                        clear HD
                        go_wp2_with fail
                        rw [HQ.out]
                        exact stm_end (x := ⟨(k : Nat), l, tx, px⟩) (tv := .slice T1 tx.length d1) (pv := .slice P1 px.length d2) (j := j) rfl rfl rfl HRr.out HXA.out HBr.out (Nat.le_refl _) ⟨rfl, rfl, by decide⟩
                      · have e45 : decide ((mostS (k : Nat) : Nat) ≤ (tx.length : Int)) = false := decide_eq_false (by omega)
                        have HQ := Lib.hid ((prun_go (at_ := i) HS.out (ps_t_add hno HBK.out (of_decide_eq_true HBS.out) hf)).symm.trans HRUN.out)
                        have hm3 : tx.length + 1 ≤ mostS (k : Nat) := by omega
                        have ht199 : tx.length ≤ 199 := by omega
                        clear hf ht2
                        go_wp2_with fail
                        go_quiet ((go_at_call 86; exact Calls.quiet_of_same ((ref_most _ _).mono fun _ _ h => ⟨h.1, h.2.symm⟩)))
                        generalize hW9 : w8.drewN _ = w9
                        have HD : Hid (Below w8.heap.size w8 w9) := Lib.hid (by rw [← hW9]; exact below_drewN (Below.refl _ _) _)
                        clear hW9
                        replace HXA := Lib.hid (HXA.out.below HD.out)
                        replace HXr := Lib.hid (HXr.out.below HD.out lxr)
                        replace HRr := Lib.hid (HRr.out.below HD.out lrr)
                        replace HBr := Lib.hid (then_ HBr.out HD.out)
                        clear q0 q1 q2 q3 y0 y1 y2 y3 fq fy lxr lrr
                        have lxr := HXr.out.lt
                        have lrr := HRr.out.lt
                        have q0 := HXr.out.cell (i := 0) (v := .int .i64 (k : Nat)) rfl
                        have q1 := HXr.out.cell (i := 1) (v := .string ⟨l.toArray⟩) rfl
                        have q2 := HXr.out.cell (i := 2) (v := .slice T1 tx.length d1) rfl
                        have q3 := HXr.out.cell (i := 3) (v := .slice P1 px.length d2) rfl
                        have y0 := HRr.out.cell (i := 0) (v := .int .i64 0) rfl
                        have y1 := HRr.out.cell (i := 1) (v := .string ⟨#[]⟩) rfl
                        have y2 := HRr.out.cell (i := 2) (v := .slice none 0 0) rfl
                        have y3 := HRr.out.cell (i := 3) (v := .slice none 0 0) rfl
                        have fq := HXr.out.free
                        have fy := HRr.out.free
                        clear HD
                        obtain ⟨i0, hi, hi0, hi1, hi2⟩ := info_parts infoStr
                        have HE0 : Hid ((w9.alloc (.cells #[] 9)).ownsRow w9.heap.size 9 1 (.slice (some ⟨w9.heap.size, 0, none⟩) 0 0) 0 []) := Lib.hid (by have h1 := World.ownsRow_made (base := w9.heap.size) (e := 9) (size := 1) w9 #[] 0 (Nat.le_refl _) (by decide) (by simp); simpa using h1)
                        have HFL : Hid (Rds (w9.alloc (.cells #[] 9)) 1 (.slice T1 tx.length d1) tx.length (tx.map fun s => Value.string ⟨s.toArray⟩)) := Lib.hid (Rds.below (HXA.out.tx) (new_ (Below.refl _ _) _))
                        go_wp2_with (first
                          | (at_builtin; (refine wpList_append_rds rfl (.tmp 108) (.tmp 110) 22 rfl w9.heap.size 9 i0 (.string ⟨#[]⟩) 1 16 Tryd.underlying22 hi hi0 hi1 hi2 rfl (by decide) (.slice (some ⟨w9.heap.size, 0, none⟩) 0 0) 0 [] (by rfl) HE0.out (.slice T1 tx.length d1) tx.length (tx.map fun s => Value.string ⟨s.toArray⟩) (by rfl) HFL.out str_ones (by unfold maxLen; omega) (by omega) (by simp) ?_; intro v2 w2 ho2 hg2; rw [Nat.zero_add, List.nil_append] at ho2; have HO2 := Lib.hid ho2; have HG2 := Lib.hid hg2; have hz2 := hg2.size; obtain ⟨VA, vc, rfl, _⟩ := own_form ho2; clear ho2 hg2))
                          | (at_builtin; (refine wpList_append_own _ rfl (.tmp 111) (.tmp 113) 22 rfl w9.heap.size 9 i0 (.string ⟨#[]⟩) 1 16 Tryd.underlying22 hi hi0 hi1 hi2 rfl (by decide) (.slice VA tx.length vc) tx.length (tx.map fun s => Value.string ⟨s.toArray⟩) (by rfl) (ca_own_alloc HO2.out _) ⟨w2.heap.size, 0, none⟩ 1 1 [.string ⟨sw.toArray⟩] rfl rfl (cells_of' _ _ _ _ rfl rfl) (by simp [Value.oneCell']) (by unfold maxLen; omega) (by omega) (by simp at hz2; simp; omega) ?_; intro v3 w3 ho3 hg3 _; obtain ⟨V3, vc3, rfl, _⟩ := own_form ho3; have HO3 := Lib.hid ho3; have HB3a := Lib.hid (app_below HG2.out HO2.out hg3); clear ho3 hg3; replace HXA := Lib.hid (HXA.out.below HB3a.out); replace HXr := Lib.hid (HXr.out.below HB3a.out lxr); replace HRr := Lib.hid (HRr.out.below HB3a.out lrr); replace HBr := Lib.hid (then_ HBr.out HB3a.out); clear q0 q1 q2 q3 y0 y1 y2 y3 fq fy lxr lrr; have lxr := HXr.out.lt; have lrr := HRr.out.lt; have q0 := HXr.out.cell (i := 0) (v := .int .i64 (k : Nat)) rfl; have q1 := HXr.out.cell (i := 1) (v := .string ⟨l.toArray⟩) rfl; have q2 := HXr.out.cell (i := 2) (v := .slice T1 tx.length d1) rfl; have q3 := HXr.out.cell (i := 3) (v := .slice P1 px.length d2) rfl; have fq := HXr.out.free; have y0 := HRr.out.cell (i := 0) (v := .int .i64 0) rfl; have y1 := HRr.out.cell (i := 1) (v := .string ⟨#[]⟩) rfl; have y2 := HRr.out.cell (i := 2) (v := .slice none 0 0) rfl; have y3 := HRr.out.cell (i := 3) (v := .slice none 0 0) rfl; have fy := HRr.out.free))
                          | fail)
                        go_roundw
                        case rel => exact ⟨j + 1, k, false, l, tx ++ [sw], px, _, _, by go_num, rfl, HXr.out.set 2 _, HRr.out.other (p := ⟨w.heap.size + 1, 2, none⟩) hne' _, xat_text HXA.out HXr.out HO3.out _, HBr.out.setCell (p := ⟨w.heap.size + 1, 2, none⟩) (Nat.le_succ _) _, by omega, HQ.out, by omega, by simpa using hm3, n1, n2, fun h => nomatch h⟩
                        case measure => simp [intOf]; omega
          · have HQ : Hid (R = .inr (ws.length, 16)) := Lib.hid (by rw [← HRUN.out, prun_end (by omega), show j = ws.length by omega])
            go_wp2_with fail
            rw [HQ.out]
            exact stm_end (x := ⟨(k : Nat), l, tx, px⟩) (tv := .slice T1 tx.length d1) (pv := .slice P1 px.length d2) (j := ws.length) rfl rfl rfl HRr.out HXA.out HBr.out (Nat.le_refl _) ⟨rfl, rfl, by decide⟩
end Go.Proofs.YtpmbfcogkoiogaaDoor
end
section
namespace Go.Proofs.YtpmbfcogkoiogaaDoor
open Go.RowKit
/-- what the reading of a text's words returns -/
def ParsePost (w : World) (r : List StmD × Nat × Int) (e : Ending) (w' : World) : Prop :=
  ∃ v, e = .returned (.tuple #[v, .int .i64 (r.2.1 : Nat), .int .i64 r.2.2]) ∧ Stms w' v r.1 ∧ Below w.heap.size w w'
theorem parseF_end {ws : List (List UInt8)} {f i : Nat} {out : List StmD} (h : ws.length ≤ i) : parseF ws (f + 1) i out = (out, 0, 0) := by
  rw [parseF, if_pos h]
theorem parseF_full {ws : List (List UInt8)} {f i : Nat} {out : List StmD} (h : i < ws.length) (h2 : out.length = 2000) : parseF ws (f + 1) i out = ([], i, 8) := by
  rw [parseF, if_neg (by omega), if_pos h2]
theorem parseF_bad {ws : List (List UInt8)} {f i : Nat} {out : List StmD} {j : Nat} {z : Int} (h : i < ws.length) (h2 : out.length ≠ 2000) (hr : readW ws i = .inr (j, z)) : parseF ws (f + 1) i out = ([], j, z) := by
  rw [parseF, if_neg (by omega), if_neg h2, hr]
theorem parseF_go {ws : List (List UInt8)} {f i : Nat} {out : List StmD} {x : StmD} {j : Nat} (h : i < ws.length) (h2 : out.length ≠ 2000) (hr : readW ws i = .inl (x, j)) : parseF ws (f + 1) i out = parseF ws f j (out ++ [x]) := by
  rw [parseF, if_neg (by omega), if_neg h2, hr]
/-- between two rounds of Parse -/
def ParRel (w : World) (ws : List (List UInt8)) (R : List StmD × Nat × Int) (v5 v6 : Value) (wr : World) : Prop :=
  ∃ (i f : Nat) (ps : List StmP) (A : Option Addr) (c : Nat), v5 = .slice A ps.length c ∧ v6 = .int .i64 (i : Nat) ∧ i ≤ ws.length ∧ ws.length - i < f ∧ ps.length ≤ 2000 ∧ wr.ownsRow w.heap.size 34 4 v5 ps.length (ps.flatMap stmCells) ∧ (∀ p ∈ ps, XAt wr p.2.1 p.2.2 p.1) ∧ Below w.heap.size w wr ∧ parseF ws f i (ps.map (·.1)) = R
theorem read_inl {ws : List (List UInt8)} {i : Nat} {x : StmD} {j : Nat} {z : Int} (h : match readW ws i with | .inl (y, k) => x = y ∧ j = k ∧ z = 0 | .inr (k, c) => j = k ∧ z = c ∧ z ≠ 0) : (z = 0 ∧ readW ws i = .inl (x, j)) ∨ (z ≠ 0 ∧ readW ws i = .inr (j, z)) := by
  cases hr : readW ws i with
  | inl y => obtain ⟨y, k⟩ := y; rw [hr] at h; obtain ⟨rfl, rfl, rfl⟩ := h; exact .inl ⟨rfl, rfl⟩
  | inr y => obtain ⟨k, c⟩ := y; rw [hr] at h; obtain ⟨rfl, rfl, h⟩ := h; exact .inr ⟨h, rfl⟩
/-- behind the append of a statement -/
def ParApp (w : World) (ps : List StmP) (x : StmD) (V3 : Value) (w3 : World) : Prop :=
  ∃ (ps' : List StmP) (A' : Option Addr) (c' : Nat), V3 = .slice A' ps'.length c' ∧ ps'.length = ps.length + 1 ∧ ps.map (·.1) ++ [x] = ps'.map (·.1) ∧ w3.ownsRow w.heap.size 34 4 (.slice A' ps'.length c') ps'.length (ps'.flatMap stmCells) ∧ (∀ p ∈ ps', XAt w3 p.2.1 p.2.2 p.1) ∧ Below w.heap.size w w3
theorem par_app {w wr w2 w3 : World} {ps : List StmP} {V V3 tv pv : Value} {x : StmD} {o1 o2 : Obj} (hO : wr.ownsRow w.heap.size 34 4 V ps.length (ps.flatMap stmCells)) (hps : ∀ p ∈ ps, XAt wr p.2.1 p.2.2 p.1) (hB : Below w.heap.size w wr) (hb2 : Below wr.heap.size wr w2)
    (hx : XAt w2 tv pv x) (ho3 : w3.ownsRow w.heap.size 34 4 V3 (ps.length + 1) (ps.flatMap stmCells ++ [.int .i64 x.kind, .string ⟨x.label.toArray⟩, tv, pv])) (hg3 : ((w2.alloc o1).alloc o2).grownBy w3 V.ownBlock) : ParApp w ps x V3 w3 := by
  have h4 := ca_own_alloc (ca_own_alloc (own_below hO hb2) o1) o2
  have hb4 : Below wr.heap.size wr ((w2.alloc o1).alloc o2) := new_ (new_ hb2 o1) o2
  obtain ⟨ps', e', ho', hx'⟩ := StmsO.snoc (fun p hp => (hps p hp).below hb4) h4 (hx.below (new_ (new_ (Below.refl _ _) o1) o2)) ho3 hg3
  have hl' : ps'.length = ps.length + 1 := by have := congrArg List.length e'; simpa using this.symm
  obtain ⟨A', c', rfl, _⟩ := own_form ho'
  have hz := (then_ hB hb4).size
  exact ⟨ps', A', c', rfl, hl', e', ho', hx', Below.grown (then_ hB hb4) hg3 hz fun k hk => (h4.lt _ hk).1⟩
set_option maxRecDepth 100000 in
set_option maxHeartbeats 4000000 in
theorem ref_parse (w : World) (v : Value) (ws : List (List UInt8)) (hv : Strs w v ws) (hsz : ∀ u ∈ ws, u.length ≤ maxLen) :
    Calls Tryd.prog 13 #[v] w (ParsePost w (parseS ws)) := by
  have HV := Lib.hid hv
  have HSZ := Lib.hid hsz
  obtain ⟨A1, c1, rfl, hc1, hm1, hxx⟩ := hv.open_
  unfold maxLen at hm1
  clear hxx hsz hv
  by_cases h8 : 8000 < ws.length
  · have e8 : decide ((8000 : Int) < (ws.length : Int)) = true := decide_eq_true (by omega)
    have HP : Hid (parseS ws = ([], 0, 4)) := Lib.hid (by unfold parseS; rw [if_pos h8])
    rw [HP.out]
    clear h8
    go_enter Tryd.func13, Tryd.ntmps13
    go_wp2
    refine bodyPost_ret (v := .tuple #[.slice none 0 0, .int .i64 0, .int .i64 4]) (by simp [results, Tryd.results13, go_sem]) rfl ?_
    exact ⟨_, rfl, Stms.nil _, Below.refl _ _⟩
  have e8 : decide ((8000 : Int) < (ws.length : Int)) = false := decide_eq_false (by omega)
  obtain ⟨R, hR⟩ : ∃ R, parseS ws = R := ⟨_, rfl⟩
  have HR : Hid (parseF ws (ws.length + 1) 0 [] = R) := Lib.hid (by rw [← hR]; unfold parseS; rw [if_neg h8])
  rw [hR]
  clear hR
  go_enter Tryd.func13, Tryd.ntmps13
  go_wp2
  go_loopw [5, 6] (fun v5 v6 wr => ParRel w ws R v5 v6 wr) (fun _ v6 _ => ws.length - (intOf v6).toNat)
  case atStart =>
    refine ⟨0, ws.length + 1, [], _, _, rfl, rfl, Nat.zero_le _, by omega, by simp, ?_, fun p h => (nomatch h), new_ (Below.refl _ _) _, HR.out⟩
    have := World.ownsRow_made (base := w.heap.size) (e := 34) (size := 4) w #[] 0 (Nat.le_refl _) (by decide) (by simp)
    simpa using this
  case round =>
    obtain ⟨i, f, ps, A, c, rfl, rfl, hi, hf, ho, hO, hps, hB, hP⟩ := hrel
    have HO := Lib.hid hO
    have HPS := Lib.hid hps
    have HB := Lib.hid hB
    have HP := Lib.hid hP
    clear hO hps hB hP
    obtain ⟨f, rfl⟩ : ∃ f', f = f' + 1 := ⟨f - 1, by omega⟩
    by_cases hlt : i < ws.length
    · have e1 : decide ((i : Int) < (ws.length : Int)) = true := decide_eq_true (by omega)
      by_cases h2 : ps.length = 2000
      · have e2 : decide ((2000 : Int) ≤ (ps.length : Int)) = true := decide_eq_true (by omega)
        have HQ : Hid (R = ([], i, 8)) := Lib.hid (HP.out.symm.trans (parseF_full hlt (by simpa using h2)))
        clear h2
        go_wp2
        refine bodyPost_ret (v := .tuple #[.slice none 0 0, .int .i64 (i : Nat), .int .i64 8]) (by simp [results, Tryd.results13, go_sem]) rfl ?_
        rw [HQ.out]
        exact ⟨_, rfl, Stms.nil _, HB.out⟩
      · have e2 : decide ((2000 : Int) ≤ (ps.length : Int)) = false := decide_eq_false (by omega)
        have HN : Hid ((ps.map (·.1)).length ≠ 2000) := Lib.hid (by simpa using h2)
        have h3 : ps.length + 1 ≤ 2000 := by omega
        clear h2
        go_wp2_with fail
        refine (ref_statement wr _ ws i (HV.out.below HB.out) hlt (by omega) HSZ.out).mono ?_
        rintro e w2 ⟨x, tv, pv, j, z, rfl, hx, hb2, hm⟩
        unfold stmV
        obtain ⟨⟨T1, d1, rfl⟩, P1, d2, rfl⟩ := hx.form
        have HX := Lib.hid hx
        have HB2 := Lib.hid hb2
        have HM := Lib.hid (read_inl hm)
        clear hx hb2 hm
        by_cases hz : z = 0
        · subst hz
          have HQ : Hid (readW ws i = .inl (x, j)) := Lib.hid (HM.out.elim (·.2) fun h => absurd rfl h.1)
          obtain ⟨hij, hjl⟩ := readW_le HQ.out hi
          have HR2 := Lib.hid ((parseF_go hlt HN.out HQ.out).symm.trans HP.out)
          obtain ⟨i0, ki, k0, k1, k2⟩ := info_parts infoStm
          have hz2 := HB2.out.size
          have hzB := HB.out.size
          clear HM HN HP HQ
          go_wp2_with (at_builtin; (refine wpList_append_own _ rfl (.tmp 33) (.tmp 35) 23 rfl w.heap.size 34 i0 (.agg #[.int .i64 0, .string ⟨#[]⟩, .slice none 0 0, .slice none 0 0]) 4 72 Tryd.underlying23 ki k0 k1 k2 rfl (by decide) (.slice A ps.length c) ps.length (ps.flatMap stmCells) (by rfl) (ca_own_alloc (ca_own_alloc (own_below HO.out HB2.out) _) _) ⟨w2.heap.size + 1, 0, none⟩ 1 1 [.int .i64 x.kind, .string ⟨x.label.toArray⟩, .slice T1 x.text.length d1, .slice P1 x.proof.length d2] rfl rfl (cells_of' _ _ _ _ rfl (by simp)) (by simp [Value.oneCell']) (by unfold maxLen; omega) (by omega) (by simp; omega) ?_; intro v3 w3 ho3 hg3 _; have HS := Lib.hid (par_app HO.out HPS.out HB.out HB2.out HX.out ho3 hg3); clear ho3 hg3))
          obtain ⟨ps', A', c', rfl, hl', e', ho', hx', hb3⟩ := HS.out
          have HE' := Lib.hid e'
          have HO' := Lib.hid ho'
          have HX' := Lib.hid hx'
          have HB3 := Lib.hid hb3
          clear HS e' ho' hx' hb3
          go_roundw
          case rel => exact ⟨j, f, ps', A', c', rfl, rfl, hjl, by omega, by omega, HO'.out, HX'.out, HB3.out, by rw [← HE'.out]; exact HR2.out⟩
          case measure => simp [intOf]; omega
        · have ez : (z != 0) = true := by simpa using hz
          have HQ : Hid (R = ([], j, z)) := Lib.hid (HP.out.symm.trans (parseF_bad hlt HN.out (HM.out.elim (fun h => absurd h.1 hz) (·.2))))
          clear hz HM
          go_wp2
          refine bodyPost_ret (v := .tuple #[.slice none 0 0, .int .i64 (j : Nat), .int .i64 z]) (by simp [results, Tryd.results13, go_sem]) rfl ?_
          rw [HQ.out]
          exact ⟨_, rfl, Stms.nil _, new_ (then_ HB.out HB2.out) _⟩
    · have e1 : decide ((i : Int) < (ws.length : Int)) = false := decide_eq_false (by omega)
      have HQ : Hid (R = (ps.map (·.1), 0, 0)) := Lib.hid (HP.out.symm.trans (parseF_end (by omega)))
      go_wp2
      refine bodyPost_ret (v := .tuple #[.slice A ps.length c, .int .i64 0, .int .i64 0]) (by simp [results, Tryd.results13, go_sem]) rfl ?_
      rw [HQ.out]
      exact ⟨_, rfl, StmsO.stms ⟨ps, rfl, HO.out, HPS.out⟩, HB.out⟩
end Go.Proofs.YtpmbfcogkoiogaaDoor
end
