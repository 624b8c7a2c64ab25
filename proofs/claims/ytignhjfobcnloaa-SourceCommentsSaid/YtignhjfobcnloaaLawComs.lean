/- SourceComments: Read of a text without include commands; one comment more. -/
import Derived.Test.YtignhjfobcnloaaPlainB
import Derived.Test.YtignhjfobcnloaaSrcRead
import Derived.Test.YtignhjfobcnloaaLawStrip
import Derived.Test.YtignhjfobcnloaaStrMap
import Derived.Test.YtignhjfobcnloaaSrcVals2
import Derived.Deep.CutRange
import Derived.Deep.RegionHeld3
import Derived.Deep.DrawnRows
import Derived.Outline
import Derived.StillTailTactics
namespace Go.Proofs.Ytignhjfobcnloaa
open Go.RowKit
attribute [local go_sem ↓] Go.wp_at_zero Go.wp_at_succ
theorem Rds.form {w : World} {size n : Nat} {v : Value} {xs : List Value} (h : Rds w size v n xs) : ∃ a c, v = .slice a n c := by
  obtain ⟨a, c, h, _⟩ := h
  exact ⟨a, c, h⟩
theorem strip_none {s : List UInt8} (h : (stripS s).2.2.2 ≠ 0) : (stripS s).1 = [] ∧ (stripS s).2.1 = [] := by
  by_cases h0 : (scanS s).2.2 = 0
  · cases hr : srun s ([], [], none) (scanS s).1 with
    | inr e => rw [stripS_bad h0 hr]; exact ⟨rfl, rfl⟩
    | inl x =>
      obtain ⟨w, c, o⟩ := x
      cases o with
      | some o => rw [stripS_open h0 hr]; exact ⟨rfl, rfl⟩
      | none => rw [stripS_ok h0 hr] at h; exact absurd rfl h
  · rw [stripS_scan h0]; exact ⟨rfl, rfl⟩
theorem heldSCom : Try.prog.stoodInHeld 91 = false := by kernel_rfl
theorem equal_scoms (w : World) (v1 v2 : Value) (l : List ComD) (h1 : ComsAt w v1 l) (h2 : ComsAt w v2 l) :
    Calls Try.prog 38 #[v1, v2] w fun e w' => e = .returned (.bool true) ∧ Below w.heap.size w w' := by
  obtain ⟨A1, c1, rfl, hc1, hm1, hx1⟩ := h1.open_
  obtain ⟨A2, c2, rfl, hc2, hm2, hx2⟩ := h2.open_
  unfold maxLen at hm1 hm2
  have hh := heldSCom
  go_enter Try.func38, Try.ntmps38
  go_wp2
  go_loopw [13] (fun i wr => ∃ k n : Nat, k ≤ l.length ∧ i = .int .i64 k ∧ wr = w.drewN n) (fun i _ => l.length - (intOf i).toNat)
  case atStart => exact ⟨0, 0, Nat.zero_le _, rfl, rfl⟩
  case round =>
    obtain ⟨k, n, hk, rfl, rfl⟩ := hrel
    by_cases hlt : k < l.length
    · obtain ⟨y, hy⟩ : ∃ y, l[k]? = some y := ⟨_, List.getElem?_eq_getElem hlt⟩
      obtain ⟨b1, o1, rfl, s1, s2, s3, s4⟩ := hx1 k y hy
      obtain ⟨b2, o2, rfl, r1, r2, r3, r4⟩ := hx2 k y hy
      clear hx1 hx2 hy
      go_wp2
      go_region
      go_wp2
      go_roundw
      case rel => exact ⟨k + 1, n + 1, by omega, by go_num, rfl⟩
      case measure => simp [intOf]; omega
    · go_wp2
      go_ret
      exact ⟨rfl, below_drewN (Below.refl _ _) n⟩
/-- the comments of a unit that has one file -/
theorem comf_coms {w : World} {v : Value} {y : List ComF} {l : List ComD} (h : ComfAt w v y) (e : y = l.map fun c => (c.1, (0 : Int), (c.2.1 : Int), (c.2.2 : Int))) : ComsAt w v l := by
  subst e
  have e1 : (l.map fun c : ComD => ((c.1, (0 : Int), (c.2.1 : Int), (c.2.2 : Int)) : ComF)).flatMap comfCells = l.flatMap comCells := by rw [List.flatMap_map]; rfl
  unfold ComfAt at h
  rw [e1, List.length_map] at h
  exact h
theorem note_len {text note : List UInt8} {a : Nat} (h1 : text.length ≤ 2000) (h2 : note.length ≤ 200) : (text.take a ++ noteS note ++ text.drop a).length ≤ 3000 := by
  simp [noteS]
  omega
theorem concat_run {a b c : ByteArray} (h : a ++ b = c) (hl : a.size + b.size ≤ 9000) : Op.stringOp .add a b = pure (.string c) := by
  unfold Op.stringOp
  have e : ¬ (((a.size + b.size : Nat) : Int) > IntKind.i64.max) := by
    have : IntKind.i64.max = 9223372036854775807 := rfl
    omega
  simp only [if_neg e, h]
/-- ahead of the comment that is inserted -/
theorem cat_note (text note : List UInt8) (a : Nat) : ((((ByteArray.mk text.toArray).extract 0 a ++ ByteArray.mk #[36, 40, 32]) ++ ByteArray.mk note.toArray) ++ ByteArray.mk #[32, 36, 41, 32]) ++ (ByteArray.mk text.toArray).extract a text.length = ByteArray.mk (text.take a ++ noteS note ++ text.drop a).toArray := by
  ext1
  simp [noteS, ByteArray.data_append]
  exact List.take_of_length_le (by simp)
set_option maxRecDepth 100000 in
set_option maxHeartbeats 8000000 in
theorem law_coms (w : World) (text note : List UInt8) (wh : Int) (hM : MaxAt w) (ht : text.length ≤ maxLen) (hn : note.length ≤ maxLen) (hw0 : 0 ≤ wh) (hw1 : wh < 65536) :
    Calls Try.prog 7 #[.string ⟨text.toArray⟩, .string ⟨note.toArray⟩, .int .u16 wh] w fun e w' => e = .returned (.bool true) ∧ Below w.heap.size w w' := by
  unfold maxLen at ht hn
  have HM := Lib.hid hM
  clear hM
  by_cases c1 : 2000 < text.length
  · have e1 : decide ((2000 : Int) < (text.length : Int)) = true := decide_eq_true (by omega)
    go_enter Try.func7, Try.ntmps7
    go_wp2_with (go_at_call 25; refine (awake02 _ HM.out).mono ?_; rintro e w1 ⟨rfl, hb1⟩)
    go_ret
    exact ⟨rfl, hb1⟩
  have e1 : decide ((2000 : Int) < (text.length : Int)) = false := decide_eq_false (by omega)
  by_cases c2 : 200 < note.length
  · have e2 : decide ((200 : Int) < (note.length : Int)) = true := decide_eq_true (by omega)
    go_enter Try.func7, Try.ntmps7
    go_wp2_with (go_at_call 25; refine (awake02 _ HM.out).mono ?_; rintro e w1 ⟨rfl, hb1⟩)
    go_ret
    exact ⟨rfl, hb1⟩
  have e2 : decide ((200 : Int) < (note.length : Int)) = false := decide_eq_false (by omega)
  obtain ⟨bd, hbd⟩ : ∃ bd, decide ((36 : UInt8) ∈ note) = bd := ⟨_, rfl⟩
  have HBD := Lib.hid hbd
  clear hbd
  cases bd with
  | true =>
    go_enter Try.func7, Try.ntmps7
    go_wp2_with (first
      | (go_at_call 35; (refine (contains_one _ note 36 HM.out (by omega)).mono ?_; rw [HBD.out]; rintro e w1 ⟨rfl, rfl⟩))
      | (go_at_call 25; refine (awake02 _ HM.out).mono ?_; rintro e w1 ⟨rfl, hb1⟩))
    go_ret
    exact ⟨rfl, hb1⟩
  | false =>
    by_cases hz : (stripS text).2.2.2 = 0
    · by_cases hzn : (scanS note).2.2 = 0
      · obtain ⟨ws, hws⟩ : ∃ ws, (stripS text).1 = ws := ⟨_, rfl⟩
        obtain ⟨cs, hcs⟩ : ∃ cs, (stripS text).2.1 = cs := ⟨_, rfl⟩
        have hlen := strip_len text
        rw [hws, hcs] at hlen
        obtain ⟨hw8, hc8⟩ := hlen
        have HZ := Lib.hid hz
        have HZN := Lib.hid hzn
        have HWS := Lib.hid hws
        have HCS := Lib.hid hcs
        clear hz hzn hws hcs
        obtain ⟨i0, hi, hj0, hj1, hj2⟩ := info_parts infoStr
        have hmm := @run_makeMap Try.prog
        go_enter Try.func7, Try.ntmps7
        go_wp2_with (first
          | (go_at_call 35; (refine (contains_one _ note 36 HM.out (by omega)).mono ?_; rw [HBD.out]; rintro e w1 ⟨rfl, rfl⟩))
          | (go_at_call 36; (refine (strip_any _ text HM.out).mono ?_; rw [HZ.out, HWS.out, HCS.out]; rintro e w1 ⟨v1, v2, rfl, hv1, hv2, hb1⟩; have HB1 := Lib.hid hb1; obtain ⟨A1, a1, rfl⟩ := Rds.form hv1; obtain ⟨A2, a2, rfl⟩ := Rds.form hv2; have HV1 := Lib.hid hv1; have HV2 := Lib.hid hv2; clear hb1 hv1 hv2))
          | (go_at_call 37; (refine (scan_any _ note).mono ?_; rw [HZN.out]; rintro e w2 ⟨v3, rfl, hv3, hb2⟩; have HB2 := Lib.hid (then_ HB1.out hb2); have HV1 := Lib.hid (HV1.out.below hb2); have HV2 := Lib.hid (HV2.out.below hb2); clear hb2 hv3)))
        go_loopw [14, 70] (fun ov i wr => ∃ k : Nat, k ≤ ws.length ∧ i = .int .i64 k ∧ wr.ownsRow w2.heap.size 9 1 ov k ((ws.take k).map fun t => strV t.1) ∧ Below w2.heap.size w2 wr) (fun _ i _ => ws.length - (intOf i).toNat)
        case atStart => exact ⟨0, Nat.zero_le _, rfl, World.ownsRow_nil _ _ _ _, Below.refl _ _⟩
        case round =>
          obtain ⟨k, hk, rfl, hown, hb⟩ := hrel
          have hwz := hb.size
          by_cases hlt : k < ws.length
          · obtain ⟨t, hx⟩ : ∃ x, ws[k]? = some x := ⟨_, List.getElem?_eq_getElem hlt⟩
            obtain ⟨A', c', hvv, _, _, hxx⟩ := (HV1.out.below hb).open_
            obtain ⟨b, o, hA, g1, g2⟩ := hxx k _ hx
            obtain ⟨rfl, _, rfl⟩ := (by simpa using hvv : A1 = A' ∧ True ∧ a1 = c')
            subst hA
            obtain ⟨L, hL⟩ : ∃ L, L = (ws.take k).map fun t => strV t.1 := ⟨_, rfl⟩
            rw [← hL] at hown
            have HT : Hid ((ws.take (k + 1)).map (fun t => strV t.1) = L ++ [strV t.1]) := Lib.hid (by rw [hL, take_snoc hx]; simp)
            have HO := Lib.hid hown
            have HB := Lib.hid hb
            clear hxx hx hvv hL hown hb
            go_wp2_with (at_builtin; (refine wpList_append_own _ rfl (.tmp 74) (.tmp 77) 22 rfl w2.heap.size 9 i0 (.string ⟨#[]⟩) 1 16 Try.underlying22 hi hj0 hj1 hj2 rfl (by decide) _ k L rfl ((HO.out.alloc _).alloc _) ⟨wr.heap.size + 1, 0, none⟩ 1 1 [strV t.1] rfl rfl (cells_at' _ _ _ _ rfl (by simp)) (by simp [strV, Value.oneCell']) (by unfold maxLen; omega) (by omega) (by simp; omega) ?_; intro v' wz hown' hgrow _))
            go_roundw
            case rel => exact ⟨k + 1, by omega, by go_num, by rw [HT.out]; exact hown', ((HB.out.alloc hwz _).alloc (by simp; omega) _).grown hgrow (by simp; omega) (own_block HO.out)⟩
            case measure => simp [intOf]; omega
          · obtain rfl : k = ws.length := by omega
            rw [List.take_length] at hown
            obtain ⟨L, hL⟩ : ∃ L, L = ws.map (·.1) := ⟨_, rfl⟩
            obtain ⟨AL, aL, rfl, _⟩ := own_form hown
            have hst : Strs wr (.slice AL ws.length aL) L := by rw [hL]; unfold Strs; rw [List.length_map, List.map_map]; exact Rds.of_own hown
            have hLl : L.length = ws.length := by rw [hL]; simp
            have HL := Lib.hid hL
            have HLl := Lib.hid hLl
            have HST := Lib.hid hst
            have HBX := Lib.hid (then_ HB2.out hb)
            have HV1 := Lib.hid (HV1.out.below hb)
            have HV2 := Lib.hid (HV2.out.below hb)
            clear hL hst hown hb hLl hwz
            obtain ⟨b1, hb1⟩ : ∃ b1, decide (([36, 91] : List UInt8) ∈ L) = b1 := ⟨_, rfl⟩
            obtain ⟨b2, hb2⟩ : ∃ b2, decide (([36, 93] : List UInt8) ∈ L) = b2 := ⟨_, rfl⟩
            have HC1 := Lib.hid hb1
            have HC2 := Lib.hid hb2
            clear hb1 hb2
            cases b1 with
            | true =>
              go_upto_region 19 with (go_at_call 15; (refine (contains_str _ _ L [36, 91] HST.out).mono ?_; rw [HC1.out]; rintro e w3 ⟨rfl, rfl⟩))
              obtain ⟨WX, hWX⟩ : ∃ WX : World, WX = wr := ⟨_, rfl⟩
              subst hWX
              have HMX := Lib.hid (HM.out.below HBX.out)
              clear hlt hk
              by_cases h0 : ws.length = 0
              · have e0 : ((ws.length : Int) == 0) = true := by simp [h0]
                clear h0
                go_wp2_with (go_at_call 25; refine (awake02 _ HMX.out).mono ?_; rintro e w9 ⟨rfl, hb9⟩)
                go_ret
                exact ⟨rfl, then_ HBX.out hb9⟩
              · have e0 : ((ws.length : Int) == 0) = false := by simp; intro e; exact h0 (by rw [e]; rfl)
                have hpos : 1 ≤ ws.length := by omega
                obtain ⟨j, hj⟩ : ∃ j : Nat, wh % (ws.length : Int) = (j : Int) := ⟨(wh % ws.length).toNat, by rw [Int.toNat_of_nonneg (Int.emod_nonneg _ (by omega))]⟩
                have hjl : (j : Int) < (ws.length : Int) := by have := Int.emod_lt_of_pos wh (show (0 : Int) < ws.length by omega); omega
                have hj0' : (0 : Int) ≤ (j : Int) := by omega
                obtain ⟨t, ht⟩ : ∃ t, ws[j]? = some t := ⟨_, List.getElem?_eq_getElem (by omega)⟩
                obtain ⟨A', c', hvv, _, _, hxx⟩ := HV1.out.open_
                obtain ⟨b, o, hA, g1, g2⟩ := hxx j _ ht
                obtain ⟨rfl, _, rfl⟩ := (by simpa using hvv : A1 = A' ∧ True ∧ a1 = c')
                subst hA
                obtain ⟨hta, l, d, hsl, hlm, hdl⟩ := note_law (t := t) HZ.out HZN.out (by omega) (by omega) (of_decide_eq_false HBD.out) (by rw [HWS.out]; exact List.mem_of_getElem? ht)
                rw [HWS.out] at hlm
                rw [HCS.out] at hdl
                have HSL := Lib.hid hsl
                have HLM := Lib.hid hlm
                have HDL := Lib.hid hdl
                have HLL : Hid (l.length = ws.length) := Lib.hid (by have := congrArg List.length hlm; simpa using this)
                clear hxx hvv ht hsl hlm hdl h0
                go_wp2
                obtain ⟨p1, hp1⟩ : ∃ p, p = text.take t.2 := ⟨_, rfl⟩
                obtain ⟨p2, hp2⟩ : ∃ p, p = p1 ++ [36, 40, 32] := ⟨_, rfl⟩
                obtain ⟨p3, hp3⟩ : ∃ p, p = p2 ++ note := ⟨_, rfl⟩
                obtain ⟨p4, hp4⟩ : ∃ p, p = p3 ++ [32, 36, 41, 32] := ⟨_, rfl⟩
                obtain ⟨q, hq⟩ : ∃ p, p = text.drop t.2 := ⟨_, rfl⟩
                obtain ⟨p5, hp5⟩ : ∃ p, p = p4 ++ q := ⟨_, rfl⟩
                have hsl5 := HSL.out
                rw [show text.take t.2 ++ noteS note ++ text.drop t.2 = p5 by rw [hp5, hp4, hp3, hp2, hp1, hq]; simp [noteS]] at hsl5
                have HS5 := Lib.hid hsl5
                have k1 : (ByteArray.mk text.toArray).extract 0 t.2 = ByteArray.mk p1.toArray := by rw [hp1]; ext1; simp
                have k5 : (ByteArray.mk text.toArray).extract t.2 text.length = ByteArray.mk q.toArray := by rw [hq]; ext1; simp; exact List.take_of_length_le (by simp)
                have htc : ((t.2 : Nat) : Int) ≤ (text.length : Int) := by omega
                have l1 : p1.length ≤ 2000 := by rw [hp1]; simp; omega
                have l2 : p2.length ≤ 2003 := by rw [hp2]; simp; omega
                have l3 : p3.length ≤ 2203 := by rw [hp3]; simp; omega
                have l4 : p4.length ≤ 2207 := by rw [hp4]; simp; omega
                have l5 : q.length ≤ 2000 := by rw [hq]; simp; omega
                have k2 : Op.stringOp .add (ByteArray.mk p1.toArray) (ByteArray.mk #[36, 40, 32]) = pure (.string ⟨p2.toArray⟩) := concat_run (by rw [hp2]; exact bytes_append p1 [36, 40, 32]) (by simp [ByteArray.size]; omega)
                have k3 : Op.stringOp .add (ByteArray.mk p2.toArray) (ByteArray.mk note.toArray) = pure (.string ⟨p3.toArray⟩) := concat_run (by rw [hp3]; exact bytes_append p2 note) (by simp [ByteArray.size]; omega)
                have k4 : Op.stringOp .add (ByteArray.mk p3.toArray) (ByteArray.mk #[32, 36, 41, 32]) = pure (.string ⟨p4.toArray⟩) := concat_run (by rw [hp4]; exact bytes_append p3 [32, 36, 41, 32]) (by simp [ByteArray.size]; omega)
                have k6 : Op.stringOp .add (ByteArray.mk p4.toArray) (ByteArray.mk q.toArray) = pure (.string ⟨p5.toArray⟩) := concat_run (by rw [hp5]; exact bytes_append p4 q) (by simp [ByteArray.size]; omega)
                clear hsl5 hp1 hp2 hp3 hp4 hp5 hq
                go_region_held3 (fun _ => True) (exact trivial) ((go_at_call 36; (refine (strip_any _ p5 (HMX.out.below (Below.refl _ _).drew)).mono ?_; rw [HS5.out]; rintro e w5 ⟨v5, v6, rfl, hv5, hv6, hb5⟩; have HB5 := Lib.hid (then_ (HBX.out.trans ((Below.refl _ _).drew.mono HBX.out.size)) hb5); have HW5 := Lib.hid ((HV1.out.below (Below.refl _ _).drew).below hb5); have hm := (HMX.out.below (Below.refl _ _).drew).below hb5; have HM5 := Lib.hid hm; obtain ⟨A5, a5, rfl⟩ := Rds.form hv5; obtain ⟨A6, a6, rfl⟩ := Rds.form hv6; have HV5 := Lib.hid hv5; clear hb5 hv5 hv6 hm)))
                have hll := HLL.out
                have hdl := HDL.out
                have e7 : (((d.length : Nat) : Int) != (cs.length : Int) + 1) = false := by rw [hdl]; simp
                clear hdl
                go_wp2
                go_loopw [161] (fun i wr => ∃ k n : Nat, k ≤ ws.length ∧ i = .int .i64 k ∧ wr = w5.drewN n) (fun i _ => ws.length - (intOf i).toNat)
                case atStart => exact ⟨0, 0, Nat.zero_le _, rfl, rfl⟩
                case round =>
                  obtain ⟨k, n, hk, rfl, rfl⟩ := hrel
                  by_cases hlt : k < ws.length
                  · obtain ⟨x1, hx1⟩ : ∃ x, l[k]? = some x := ⟨_, List.getElem?_eq_getElem (by have := HLL.out; omega)⟩
                    obtain ⟨x2, hx2⟩ : ∃ x, ws[k]? = some x := ⟨_, List.getElem?_eq_getElem hlt⟩
                    have hx12 : x1.1 = x2.1 := by
                      have := congrArg (fun z => z[k]?) HLM.out
                      simpa [hx1, hx2] using this
                    obtain ⟨B5, c5, hv5, _, _, hxx5⟩ := HV5.out.open_
                    obtain ⟨b5, o5, hA5, s1, s2⟩ := hxx5 k _ hx1
                    obtain ⟨B1, c6, hv6, _, _, hxx6⟩ := HW5.out.open_
                    obtain ⟨b6, o6, hA6, r1, r2⟩ := hxx6 k _ hx2
                    have e5 : A5 = some ⟨b5, o5, none⟩ := by rw [← hA5]; simpa using congrArg (fun v => match v with | Value.slice A _ _ => A | _ => none) hv5
                    have e6 : some (⟨b, o, none⟩ : Addr) = some ⟨b6, o6, none⟩ := by rw [← hA6]; simpa using congrArg (fun v => match v with | Value.slice A _ _ => A | _ => none) hv6
                    obtain ⟨rfl, rfl⟩ : b = b6 ∧ o = o6 := by simpa using e6
                    subst e5
                    rw [hx12] at s1
                    have e9 : (x2.1 != x2.1) = false := by simp
                    clear hxx5 hxx6 hx1 hx2 hx12 hv5 hv6 hA5 hA6 e6 s2 r2
                    go_wp2
                    go_region
                    go_wp2
                    go_roundw
                    case rel => exact ⟨k + 1, n + 1, by omega, by go_num, rfl⟩
                    case measure => simp [intOf]; omega
                  · go_wp2_with (go_at_call 25; refine (awake02 _ (HM5.out.below (below_drewN (Below.refl _ _) n))).mono ?_; rintro e w9 ⟨rfl, hb9⟩)
                    go_ret
                    exact ⟨rfl, then_ (HB5.out.trans (below_drewN (Below.refl _ _) n)) hb9⟩
            | false =>
              cases b2 with
              | true =>
                go_upto_region 19 with (first
                  | (go_at_call 15; (refine (contains_str _ _ L [36, 91] HST.out).mono ?_; rw [HC1.out]; rintro e w3 ⟨rfl, rfl⟩))
                  | (go_at_call 15; (refine (contains_str _ _ L [36, 93] HST.out).mono ?_; rw [HC2.out]; rintro e w3 ⟨rfl, rfl⟩)))
                obtain ⟨WX, hWX⟩ : ∃ WX : World, WX = wr := ⟨_, rfl⟩
                subst hWX
                have HMX := Lib.hid (HM.out.below HBX.out)
                clear hlt hk
                by_cases h0 : ws.length = 0
                · have e0 : ((ws.length : Int) == 0) = true := by simp [h0]
                  clear h0
                  go_wp2_with (go_at_call 25; refine (awake02 _ HMX.out).mono ?_; rintro e w9 ⟨rfl, hb9⟩)
                  go_ret
                  exact ⟨rfl, then_ HBX.out hb9⟩
                · have e0 : ((ws.length : Int) == 0) = false := by simp; intro e; exact h0 (by rw [e]; rfl)
                  have hpos : 1 ≤ ws.length := by omega
                  obtain ⟨j, hj⟩ : ∃ j : Nat, wh % (ws.length : Int) = (j : Int) := ⟨(wh % ws.length).toNat, by rw [Int.toNat_of_nonneg (Int.emod_nonneg _ (by omega))]⟩
                  have hjl : (j : Int) < (ws.length : Int) := by have := Int.emod_lt_of_pos wh (show (0 : Int) < ws.length by omega); omega
                  have hj0' : (0 : Int) ≤ (j : Int) := by omega
                  obtain ⟨t, ht⟩ : ∃ t, ws[j]? = some t := ⟨_, List.getElem?_eq_getElem (by omega)⟩
                  obtain ⟨A', c', hvv, _, _, hxx⟩ := HV1.out.open_
                  obtain ⟨b, o, hA, g1, g2⟩ := hxx j _ ht
                  obtain ⟨rfl, _, rfl⟩ := (by simpa using hvv : A1 = A' ∧ True ∧ a1 = c')
                  subst hA
                  obtain ⟨hta, l, d, hsl, hlm, hdl⟩ := note_law (t := t) HZ.out HZN.out (by omega) (by omega) (of_decide_eq_false HBD.out) (by rw [HWS.out]; exact List.mem_of_getElem? ht)
                  rw [HWS.out] at hlm
                  rw [HCS.out] at hdl
                  have HSL := Lib.hid hsl
                  have HLM := Lib.hid hlm
                  have HDL := Lib.hid hdl
                  have HLL : Hid (l.length = ws.length) := Lib.hid (by have := congrArg List.length hlm; simpa using this)
                  clear hxx hvv ht hsl hlm hdl h0
                  go_wp2
                  obtain ⟨p1, hp1⟩ : ∃ p, p = text.take t.2 := ⟨_, rfl⟩
                  obtain ⟨p2, hp2⟩ : ∃ p, p = p1 ++ [36, 40, 32] := ⟨_, rfl⟩
                  obtain ⟨p3, hp3⟩ : ∃ p, p = p2 ++ note := ⟨_, rfl⟩
                  obtain ⟨p4, hp4⟩ : ∃ p, p = p3 ++ [32, 36, 41, 32] := ⟨_, rfl⟩
                  obtain ⟨q, hq⟩ : ∃ p, p = text.drop t.2 := ⟨_, rfl⟩
                  obtain ⟨p5, hp5⟩ : ∃ p, p = p4 ++ q := ⟨_, rfl⟩
                  have hsl5 := HSL.out
                  rw [show text.take t.2 ++ noteS note ++ text.drop t.2 = p5 by rw [hp5, hp4, hp3, hp2, hp1, hq]; simp [noteS]] at hsl5
                  have HS5 := Lib.hid hsl5
                  have k1 : (ByteArray.mk text.toArray).extract 0 t.2 = ByteArray.mk p1.toArray := by rw [hp1]; ext1; simp
                  have k5 : (ByteArray.mk text.toArray).extract t.2 text.length = ByteArray.mk q.toArray := by rw [hq]; ext1; simp; exact List.take_of_length_le (by simp)
                  have htc : ((t.2 : Nat) : Int) ≤ (text.length : Int) := by omega
                  have l1 : p1.length ≤ 2000 := by rw [hp1]; simp; omega
                  have l2 : p2.length ≤ 2003 := by rw [hp2]; simp; omega
                  have l3 : p3.length ≤ 2203 := by rw [hp3]; simp; omega
                  have l4 : p4.length ≤ 2207 := by rw [hp4]; simp; omega
                  have l5 : q.length ≤ 2000 := by rw [hq]; simp; omega
                  have k2 : Op.stringOp .add (ByteArray.mk p1.toArray) (ByteArray.mk #[36, 40, 32]) = pure (.string ⟨p2.toArray⟩) := concat_run (by rw [hp2]; exact bytes_append p1 [36, 40, 32]) (by simp [ByteArray.size]; omega)
                  have k3 : Op.stringOp .add (ByteArray.mk p2.toArray) (ByteArray.mk note.toArray) = pure (.string ⟨p3.toArray⟩) := concat_run (by rw [hp3]; exact bytes_append p2 note) (by simp [ByteArray.size]; omega)
                  have k4 : Op.stringOp .add (ByteArray.mk p3.toArray) (ByteArray.mk #[32, 36, 41, 32]) = pure (.string ⟨p4.toArray⟩) := concat_run (by rw [hp4]; exact bytes_append p3 [32, 36, 41, 32]) (by simp [ByteArray.size]; omega)
                  have k6 : Op.stringOp .add (ByteArray.mk p4.toArray) (ByteArray.mk q.toArray) = pure (.string ⟨p5.toArray⟩) := concat_run (by rw [hp5]; exact bytes_append p4 q) (by simp [ByteArray.size]; omega)
                  clear hsl5 hp1 hp2 hp3 hp4 hp5 hq
                  go_region_held3 (fun _ => True) (exact trivial) ((go_at_call 36; (refine (strip_any _ p5 (HMX.out.below (Below.refl _ _).drew)).mono ?_; rw [HS5.out]; rintro e w5 ⟨v5, v6, rfl, hv5, hv6, hb5⟩; have HB5 := Lib.hid (then_ (HBX.out.trans ((Below.refl _ _).drew.mono HBX.out.size)) hb5); have HW5 := Lib.hid ((HV1.out.below (Below.refl _ _).drew).below hb5); have hm := (HMX.out.below (Below.refl _ _).drew).below hb5; have HM5 := Lib.hid hm; obtain ⟨A5, a5, rfl⟩ := Rds.form hv5; obtain ⟨A6, a6, rfl⟩ := Rds.form hv6; have HV5 := Lib.hid hv5; clear hb5 hv5 hv6 hm)))
                  have hll := HLL.out
                  have hdl := HDL.out
                  have e7 : (((d.length : Nat) : Int) != (cs.length : Int) + 1) = false := by rw [hdl]; simp
                  clear hdl
                  go_wp2
                  go_loopw [161] (fun i wr => ∃ k n : Nat, k ≤ ws.length ∧ i = .int .i64 k ∧ wr = w5.drewN n) (fun i _ => ws.length - (intOf i).toNat)
                  case atStart => exact ⟨0, 0, Nat.zero_le _, rfl, rfl⟩
                  case round =>
                    obtain ⟨k, n, hk, rfl, rfl⟩ := hrel
                    by_cases hlt : k < ws.length
                    · obtain ⟨x1, hx1⟩ : ∃ x, l[k]? = some x := ⟨_, List.getElem?_eq_getElem (by have := HLL.out; omega)⟩
                      obtain ⟨x2, hx2⟩ : ∃ x, ws[k]? = some x := ⟨_, List.getElem?_eq_getElem hlt⟩
                      have hx12 : x1.1 = x2.1 := by
                        have := congrArg (fun z => z[k]?) HLM.out
                        simpa [hx1, hx2] using this
                      obtain ⟨B5, c5, hv5, _, _, hxx5⟩ := HV5.out.open_
                      obtain ⟨b5, o5, hA5, s1, s2⟩ := hxx5 k _ hx1
                      obtain ⟨B1, c6, hv6, _, _, hxx6⟩ := HW5.out.open_
                      obtain ⟨b6, o6, hA6, r1, r2⟩ := hxx6 k _ hx2
                      have e5 : A5 = some ⟨b5, o5, none⟩ := by rw [← hA5]; simpa using congrArg (fun v => match v with | Value.slice A _ _ => A | _ => none) hv5
                      have e6 : some (⟨b, o, none⟩ : Addr) = some ⟨b6, o6, none⟩ := by rw [← hA6]; simpa using congrArg (fun v => match v with | Value.slice A _ _ => A | _ => none) hv6
                      obtain ⟨rfl, rfl⟩ : b = b6 ∧ o = o6 := by simpa using e6
                      subst e5
                      rw [hx12] at s1
                      have e9 : (x2.1 != x2.1) = false := by simp
                      clear hxx5 hxx6 hx1 hx2 hx12 hv5 hv6 hA5 hA6 e6 s2 r2
                      go_wp2
                      go_region
                      go_wp2
                      go_roundw
                      case rel => exact ⟨k + 1, n + 1, by omega, by go_num, rfl⟩
                      case measure => simp [intOf]; omega
                    · go_wp2_with (go_at_call 25; refine (awake02 _ (HM5.out.below (below_drewN (Below.refl _ _) n))).mono ?_; rintro e w9 ⟨rfl, hb9⟩)
                      go_ret
                      exact ⟨rfl, then_ (HB5.out.trans (below_drewN (Below.refl _ _) n)) hb9⟩
              | false =>
                have hno : ∀ t ∈ ws, t.1 ≠ [36, 91] ∧ t.1 ≠ [36, 93] := fun t ht => ⟨fun e => absurd HC1.out (by rw [decide_eq_true (show ([36, 91] : List UInt8) ∈ L by rw [HL.out, ← e]; exact List.mem_map_of_mem ht)]; decide), fun e => absurd HC2.out (by rw [decide_eq_true (show ([36, 93] : List UInt8) ∈ L by rw [HL.out, ← e]; exact List.mem_map_of_mem ht)]; decide)⟩
                obtain ⟨wm, hput0, hmap, hgm⟩ := (StrM.new (H := Unit) wr).put [109] text (by unfold maxLen; decide) (by unfold maxLen; omega) (by unfold maxLen; decide)
                have hput : (Instr.mapUpdate 70 (.map (some wr.heap.size)) (.string ⟨#[109]⟩) (.string ⟨text.toArray⟩)).run Try.prog (wr.alloc (.map #[] 0)) = .ok () wm := hput0
                have hbm : Below wr.heap.size wr wm := (new_ (Below.refl _ _) _).grown hgm (by simp) (fun j hj => by cases hj; exact Nat.le_refl _)
                have hfm : FilesAt wm.heap.size wm (.map (some wr.heap.size)) (fun k => if k = [109] then some text else none) := hmap.files (HM.out.below (then_ HBX.out hbm))
                obtain ⟨y, hy1, hy2, hy3, hy4⟩ := read_plain (fs := fun k => if k = [109] then some text else none) (main := [109]) (text := text) rfl HZ.out (by rw [HWS.out]; exact hno)
                have HY1 := Lib.hid hy1
                have HY3 : Hid (textsS y.words = L) := Lib.hid (by rw [hy3, HWS.out, HL.out]; simp [textsS])
                have HY4 : Hid (y.coms = cs.map fun c => (c.1, (0 : Int), (c.2.1 : Int), (c.2.2 : Int))) := Lib.hid (by rw [hy4, HCS.out])
                have HYW : Hid (y.words.length ≤ 1000000) := Lib.hid (by rw [hy3, HWS.out, List.length_map]; omega)
                have HFM := Lib.hid hfm
                have HBM := Lib.hid hbm
                clear hput0 hmap hgm hbm hfm hy1 hy2 hy3 hy4 hno
                go_upto_region 19 with (first
                  | (go_at_call 15; (refine (contains_str _ _ L [36, 91] HST.out).mono ?_; rw [HC1.out]; rintro e w3 ⟨rfl, rfl⟩))
                  | (go_at_call 15; (refine (contains_str _ _ L [36, 93] HST.out).mono ?_; rw [HC2.out]; rintro e w3 ⟨rfl, rfl⟩))
                  | (go_at_call 32; (refine (read_any _ _ _ [109] HFM.out (by unfold maxLen; decide)).mono ?_; rw [HY1.out]; rintro e w4 ⟨vf, vw, vc, rfl, hf4, hw4, hc4, hb4⟩; obtain ⟨F1, f1, rfl, _⟩ := own_form hf4; obtain ⟨F2, f2, rfl, _⟩ := own_form hw4; obtain ⟨F3, f3, rfl, _⟩ := own_form hc4; have HW4 := Lib.hid (show WordsAt w4 (.slice F2 y.words.length f2) y.words from Rds.of_own hw4); have HC4 := Lib.hid (comf_coms (Rds.of_own hc4) HY4.out); have HB4 := Lib.hid (then_ HBM.out hb4); clear hf4 hw4 hc4 hb4))
                  | (go_at_call 29; (refine (texts_any _ _ _ _ y.words (HW4.out.below (new_ (new_ (Below.refl _ _) _) _)) HYW.out).mono ?_; rw [HY3.out]; rintro e w6 ⟨v6, rfl, hv6, hb6⟩; obtain ⟨q6, c6, rfl⟩ := hv6.form; have HV6 := Lib.hid hv6; have HU6 := Lib.hid (((Row.new w4 54 #[.slice F1 y.files.length f1, .slice F2 y.words.length f2, .slice F3 y.coms.length f3]).alloc (.cells #[.string ⟨#[]⟩, .int .i64 0] 56)).below hb6 (by simp; omega)); have HD6 := Lib.hid (then_ (new_ (new_ (Below.refl _ _) _) _) hb6); have HB6 := Lib.hid (then_ (new_ (new_ HB4.out _) _) hb6); have u2 := HU6.out.cell (i := 2) (v := .slice F3 y.coms.length f3) rfl; clear hb6 hv6))
                  | (go_at_call 18; (refine (equal_str_same _ _ _ L HV6.out (HST.out.below HB6.out)).mono ?_; rintro e w7 ⟨rfl, hb7⟩; clear u2; have HU7 := Lib.hid (HU6.out.below hb7 HU6.out.lt); have HD7 := Lib.hid (then_ HD6.out hb7); have HB7 := Lib.hid (then_ HB6.out hb7); have u2 := HU7.out.cell (i := 2) (v := .slice F3 y.coms.length f3) rfl; clear hb7))
                  | (go_at_call 38; (refine (equal_scoms _ _ _ cs (HC4.out.below HD7.out) (HV2.out.below HB7.out)).mono ?_; rintro e w8 ⟨rfl, hb8⟩; clear u2; have HB8 := Lib.hid (then_ HB7.out hb8); clear hb8)))
                obtain ⟨WX, hWX⟩ : ∃ WX : World, WX = w8 := ⟨_, rfl⟩
                subst hWX
                have HBX := Lib.hid (then_ HBX.out HB8.out)
                have HV1 := Lib.hid (HV1.out.below HB8.out)
                have HV2 := Lib.hid (HV2.out.below HB8.out)
                clear hput
                have HMX := Lib.hid (HM.out.below HBX.out)
                clear hlt hk
                by_cases h0 : ws.length = 0
                · have e0 : ((ws.length : Int) == 0) = true := by simp [h0]
                  clear h0
                  go_wp2_with (go_at_call 25; refine (awake02 _ HMX.out).mono ?_; rintro e w9 ⟨rfl, hb9⟩)
                  go_ret
                  exact ⟨rfl, then_ HBX.out hb9⟩
                · have e0 : ((ws.length : Int) == 0) = false := by simp; intro e; exact h0 (by rw [e]; rfl)
                  have hpos : 1 ≤ ws.length := by omega
                  obtain ⟨j, hj⟩ : ∃ j : Nat, wh % (ws.length : Int) = (j : Int) := ⟨(wh % ws.length).toNat, by rw [Int.toNat_of_nonneg (Int.emod_nonneg _ (by omega))]⟩
                  have hjl : (j : Int) < (ws.length : Int) := by have := Int.emod_lt_of_pos wh (show (0 : Int) < ws.length by omega); omega
                  have hj0' : (0 : Int) ≤ (j : Int) := by omega
                  obtain ⟨t, ht⟩ : ∃ t, ws[j]? = some t := ⟨_, List.getElem?_eq_getElem (by omega)⟩
                  obtain ⟨A', c', hvv, _, _, hxx⟩ := HV1.out.open_
                  obtain ⟨b, o, hA, g1, g2⟩ := hxx j _ ht
                  obtain ⟨rfl, _, rfl⟩ := (by simpa using hvv : A1 = A' ∧ True ∧ a1 = c')
                  subst hA
                  obtain ⟨hta, l, d, hsl, hlm, hdl⟩ := note_law (t := t) HZ.out HZN.out (by omega) (by omega) (of_decide_eq_false HBD.out) (by rw [HWS.out]; exact List.mem_of_getElem? ht)
                  rw [HWS.out] at hlm
                  rw [HCS.out] at hdl
                  have HSL := Lib.hid hsl
                  have HLM := Lib.hid hlm
                  have HDL := Lib.hid hdl
                  have HLL : Hid (l.length = ws.length) := Lib.hid (by have := congrArg List.length hlm; simpa using this)
                  clear hxx hvv ht hsl hlm hdl h0
                  go_wp2
                  obtain ⟨p1, hp1⟩ : ∃ p, p = text.take t.2 := ⟨_, rfl⟩
                  obtain ⟨p2, hp2⟩ : ∃ p, p = p1 ++ [36, 40, 32] := ⟨_, rfl⟩
                  obtain ⟨p3, hp3⟩ : ∃ p, p = p2 ++ note := ⟨_, rfl⟩
                  obtain ⟨p4, hp4⟩ : ∃ p, p = p3 ++ [32, 36, 41, 32] := ⟨_, rfl⟩
                  obtain ⟨q, hq⟩ : ∃ p, p = text.drop t.2 := ⟨_, rfl⟩
                  obtain ⟨p5, hp5⟩ : ∃ p, p = p4 ++ q := ⟨_, rfl⟩
                  have hsl5 := HSL.out
                  rw [show text.take t.2 ++ noteS note ++ text.drop t.2 = p5 by rw [hp5, hp4, hp3, hp2, hp1, hq]; simp [noteS]] at hsl5
                  have HS5 := Lib.hid hsl5
                  have k1 : (ByteArray.mk text.toArray).extract 0 t.2 = ByteArray.mk p1.toArray := by rw [hp1]; ext1; simp
                  have k5 : (ByteArray.mk text.toArray).extract t.2 text.length = ByteArray.mk q.toArray := by rw [hq]; ext1; simp; exact List.take_of_length_le (by simp)
                  have htc : ((t.2 : Nat) : Int) ≤ (text.length : Int) := by omega
                  have l1 : p1.length ≤ 2000 := by rw [hp1]; simp; omega
                  have l2 : p2.length ≤ 2003 := by rw [hp2]; simp; omega
                  have l3 : p3.length ≤ 2203 := by rw [hp3]; simp; omega
                  have l4 : p4.length ≤ 2207 := by rw [hp4]; simp; omega
                  have l5 : q.length ≤ 2000 := by rw [hq]; simp; omega
                  have k2 : Op.stringOp .add (ByteArray.mk p1.toArray) (ByteArray.mk #[36, 40, 32]) = pure (.string ⟨p2.toArray⟩) := concat_run (by rw [hp2]; exact bytes_append p1 [36, 40, 32]) (by simp [ByteArray.size]; omega)
                  have k3 : Op.stringOp .add (ByteArray.mk p2.toArray) (ByteArray.mk note.toArray) = pure (.string ⟨p3.toArray⟩) := concat_run (by rw [hp3]; exact bytes_append p2 note) (by simp [ByteArray.size]; omega)
                  have k4 : Op.stringOp .add (ByteArray.mk p3.toArray) (ByteArray.mk #[32, 36, 41, 32]) = pure (.string ⟨p4.toArray⟩) := concat_run (by rw [hp4]; exact bytes_append p3 [32, 36, 41, 32]) (by simp [ByteArray.size]; omega)
                  have k6 : Op.stringOp .add (ByteArray.mk p4.toArray) (ByteArray.mk q.toArray) = pure (.string ⟨p5.toArray⟩) := concat_run (by rw [hp5]; exact bytes_append p4 q) (by simp [ByteArray.size]; omega)
                  clear hsl5 hp1 hp2 hp3 hp4 hp5 hq
                  go_region_held3 (fun _ => True) (exact trivial) ((go_at_call 36; (refine (strip_any _ p5 (HMX.out.below (Below.refl _ _).drew)).mono ?_; rw [HS5.out]; rintro e w5 ⟨v5, v6, rfl, hv5, hv6, hb5⟩; have HB5 := Lib.hid (then_ (HBX.out.trans ((Below.refl _ _).drew.mono HBX.out.size)) hb5); have HW5 := Lib.hid ((HV1.out.below (Below.refl _ _).drew).below hb5); have hm := (HMX.out.below (Below.refl _ _).drew).below hb5; have HM5 := Lib.hid hm; obtain ⟨A5, a5, rfl⟩ := Rds.form hv5; obtain ⟨A6, a6, rfl⟩ := Rds.form hv6; have HV5 := Lib.hid hv5; clear hb5 hv5 hv6 hm)))
                  have hll := HLL.out
                  have hdl := HDL.out
                  have e7 : (((d.length : Nat) : Int) != (cs.length : Int) + 1) = false := by rw [hdl]; simp
                  clear hdl
                  go_wp2
                  go_loopw [161] (fun i wr => ∃ k n : Nat, k ≤ ws.length ∧ i = .int .i64 k ∧ wr = w5.drewN n) (fun i _ => ws.length - (intOf i).toNat)
                  case atStart => exact ⟨0, 0, Nat.zero_le _, rfl, rfl⟩
                  case round =>
                    obtain ⟨k, n, hk, rfl, rfl⟩ := hrel
                    by_cases hlt : k < ws.length
                    · obtain ⟨x1, hx1⟩ : ∃ x, l[k]? = some x := ⟨_, List.getElem?_eq_getElem (by have := HLL.out; omega)⟩
                      obtain ⟨x2, hx2⟩ : ∃ x, ws[k]? = some x := ⟨_, List.getElem?_eq_getElem hlt⟩
                      have hx12 : x1.1 = x2.1 := by
                        have := congrArg (fun z => z[k]?) HLM.out
                        simpa [hx1, hx2] using this
                      obtain ⟨B5, c5, hv5, _, _, hxx5⟩ := HV5.out.open_
                      obtain ⟨b5, o5, hA5, s1, s2⟩ := hxx5 k _ hx1
                      obtain ⟨B1, c6, hv6, _, _, hxx6⟩ := HW5.out.open_
                      obtain ⟨b6, o6, hA6, r1, r2⟩ := hxx6 k _ hx2
                      have e5 : A5 = some ⟨b5, o5, none⟩ := by rw [← hA5]; simpa using congrArg (fun v => match v with | Value.slice A _ _ => A | _ => none) hv5
                      have e6 : some (⟨b, o, none⟩ : Addr) = some ⟨b6, o6, none⟩ := by rw [← hA6]; simpa using congrArg (fun v => match v with | Value.slice A _ _ => A | _ => none) hv6
                      obtain ⟨rfl, rfl⟩ : b = b6 ∧ o = o6 := by simpa using e6
                      subst e5
                      rw [hx12] at s1
                      have e9 : (x2.1 != x2.1) = false := by simp
                      clear hxx5 hxx6 hx1 hx2 hx12 hv5 hv6 hA5 hA6 e6 s2 r2
                      go_wp2
                      go_region
                      go_wp2
                      go_roundw
                      case rel => exact ⟨k + 1, n + 1, by omega, by go_num, rfl⟩
                      case measure => simp [intOf]; omega
                    · go_wp2_with (go_at_call 25; refine (awake02 _ (HM5.out.below (below_drewN (Below.refl _ _) n))).mono ?_; rintro e w9 ⟨rfl, hb9⟩)
                      go_ret
                      exact ⟨rfl, then_ (HB5.out.trans (below_drewN (Below.refl _ _) n)) hb9⟩
      · have ez : ((scanS note).2.2 != 0) = true := by simpa using hzn
        have HZ := Lib.hid hz
        clear hzn hz
        go_enter Try.func7, Try.ntmps7
        go_wp2_with (first
          | (go_at_call 35; (refine (contains_one _ note 36 HM.out (by omega)).mono ?_; rw [HBD.out]; rintro e w1 ⟨rfl, rfl⟩))
          | (go_at_call 36; (refine (strip_any _ text HM.out).mono ?_; rw [HZ.out]; rintro e w1 ⟨v1, v2, rfl, hv1, hv2, hb1⟩; have HB1 := Lib.hid hb1; clear hb1 hv1 hv2))
          | (go_at_call 37; (refine (scan_any _ note).mono ?_; rintro e w2 ⟨v3, rfl, hv3, hb2⟩; have HB2 := Lib.hid (then_ HB1.out hb2); clear hb2 hv3))
          | (go_at_call 25; refine (awake02 _ (HM.out.below HB2.out)).mono ?_; rintro e w3 ⟨rfl, hb3⟩))
        go_ret
        exact ⟨rfl, then_ HB2.out hb3⟩
    · have ez : ((stripS text).2.2.2 != 0) = true := by simpa using hz
      obtain ⟨n1, n2⟩ := strip_none hz
      have N1 := Lib.hid n1
      have N2 := Lib.hid n2
      clear hz n1 n2
      go_enter Try.func7, Try.ntmps7
      go_wp2_with (first
        | (go_at_call 35; (refine (contains_one _ note 36 HM.out (by omega)).mono ?_; rw [HBD.out]; rintro e w1 ⟨rfl, rfl⟩))
        | (go_at_call 36; (refine (strip_any _ text HM.out).mono ?_; rw [N1.out, N2.out]; rintro e w1 ⟨v1, v2, rfl, hv1, hv2, hb1⟩; have HB1 := Lib.hid hb1; obtain ⟨A1, a1, rfl, _⟩ := hv1; obtain ⟨A2, a2, rfl, _⟩ := hv2; clear hb1))
        | (go_at_call 25; refine (awake02 _ (HM.out.below HB1.out)).mono ?_; rintro e w3 ⟨rfl, hb3⟩))
      go_ret
      exact ⟨rfl, then_ HB1.out hb3⟩
end Go.Proofs.Ytignhjfobcnloaa
