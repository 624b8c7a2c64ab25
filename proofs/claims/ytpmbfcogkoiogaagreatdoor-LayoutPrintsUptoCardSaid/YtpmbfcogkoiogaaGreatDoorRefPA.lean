/- Layout: the printing of the reference: spaces, indents, blocks. Layout: Print and Of of the reference, Of of the program. -/
import Derived.Test.YtpmbfcogkoiogaaGreatDoorRefBlank
import Derived.Test.YtpmbfcogkoiogaaGreatDoorPrnA
import Derived.Test.YtpmbfcogkoiogaaGreatDoorDocTA
import Derived.Test.YtpmbfcogkoiogaaGreatDoorRefDoc
section
namespace Go.Proofs.YtpmbfcogkoiogaaGreatDoor
open Go.RowKit
attribute [local go_sem ↓] Go.wp_at_zero Go.wp_at_succ
theorem rep_snoc (k : Nat) (b : UInt8) : List.replicate k b ++ [b] = List.replicate (k + 1) b := by
  rw [List.replicate_succ', ]
set_option maxRecDepth 100000 in
theorem ref_spaces (w : World) (z : Int) (hz : 0 ≤ z ∧ z ≤ 1000) : Calls Tryz.prog 45 #[.int .i64 z] w fun e w' => e = .returned (.string ⟨(List.replicate z.toNat 32).toArray⟩) ∧ w = w' := by
  obtain ⟨n, rfl⟩ : ∃ n : Nat, z = n := ⟨z.toNat, by omega⟩
  rw [Int.toNat_natCast]
  have hn : n ≤ 1000 := by omega
  clear hz
  go_enter Tryz.func45, Tryz.ntmps45
  go_wp2_with fail
  go_loop [3, 4] (fun sv iv => ∃ k : Nat, k ≤ n ∧ iv = .int .i64 k ∧ sv = .string ⟨(List.replicate k 32).toArray⟩) (fun _ iv => n - (intOf iv).toNat)
  case atStart => exact ⟨0, Nat.zero_le _, rfl, rfl⟩
  case round =>
    obtain ⟨k, hk, rfl, rfl⟩ := hrel
    by_cases hlt : k < n
    · obtain ⟨Z, hZ⟩ : ∃ Z, List.replicate k (32 : UInt8) = Z := ⟨_, rfl⟩
      have hzl : Z.length = k := by rw [← hZ]; simp
      obtain ⟨Z2, hZ2⟩ : ∃ Z2, Z ++ [32] = Z2 := ⟨_, rfl⟩
      have hca := cat_run hZ2 (by simp; omega)
      have HZ : Hid (List.replicate (k + 1) (32 : UInt8) = Z2) := Lib.hid (by rw [← rep_snoc, hZ, hZ2])
      rw [hZ]
      clear hzl hZ2 hZ
      go_wp2_with fail
      go_round
      case rel => exact ⟨k + 1, by omega, by go_num, by rw [HZ.out]⟩
      case measure => simp [intOf]; omega
    · obtain rfl : k = n := by omega
      go_wp2_with fail
      go_ret
      exact ⟨rfl, rfl⟩
theorem ref_indent (w : World) (D : Int) (hD : -1000000 ≤ D ∧ D ≤ 1000000) : Calls Tryz.prog 27 #[.int .i64 D] w fun e w' => e = .returned (.string ⟨(indS D).toArray⟩) ∧ w = w' := by
  obtain ⟨h1, h2⟩ := hD
  go_enter Tryz.func27, Tryz.ntmps27
  go_wp2_with fail
  refine (ref_spaces _ _ (by omega)).mono ?_
  rintro e w2 ⟨rfl, rfl⟩
  go_wp2_with fail
  go_ret
  exact ⟨rfl, rfl⟩
theorem ref_depthAt (w : World) (D k : Int) (l tv pv : Value) (hD : -1000000 ≤ D ∧ D ≤ 1000000) : Calls Tryz.prog 24 #[.int .i64 D, .agg #[.int .i64 k, l, tv, pv]] w fun e w' => e = .returned (.tuple #[.int .i64 (atD D k), .int .i64 (nextD D k)]) ∧ Below w.heap.size w w' := by
  obtain ⟨h1, h2⟩ := hD
  by_cases h8 : k = 8
  · subst h8
    have e1 : ((8 : Int) == 8) = true := rfl
    go_enter Tryz.func24, Tryz.ntmps24
    go_wp2_with fail
    go_ret2
    exact ⟨rfl, new_ (Below.refl _ _) _⟩
  · by_cases h9 : k = 9
    · subst h9
      have e1 : ((9 : Int) == 8) = false := rfl
      have e2 : ((9 : Int) == 9) = true := rfl
      go_enter Tryz.func24, Tryz.ntmps24
      go_wp2_with fail
      go_ret2
      exact ⟨rfl, new_ (Below.refl _ _) _⟩
    · have e1 : (k == 8) = false := by simpa using h8
      have e2 : (k == 9) = false := by simpa using h9
      have HA : Hid (atD D k = D ∧ nextD D k = D) := Lib.hid ⟨by unfold atD; rw [if_neg h9], by unfold nextD; rw [if_neg h9, if_neg h8]⟩
      clear h8 h9
      go_enter Tryz.func24, Tryz.ntmps24
      go_wp2_with fail
      go_ret2
      rw [HA.out.1, HA.out.2]
      exact ⟨rfl, new_ (Below.refl _ _) _⟩
set_option maxHeartbeats 4000000 in
set_option maxRecDepth 100000 in
theorem ref_rblock (w : World) (v : Value) (ws : List (List UInt8)) (ind : List UInt8) (W : Int) (hv : Strs w v ws) (hi : ind.length ≤ 1000) (hws : ws.length ≤ 10000) (hsum : sumL ws ≤ 1000000) :
    Calls Tryz.prog 25 #[v, .string ⟨ind.toArray⟩, .int .i64 W] w fun e w' => e = .returned (.string ⟨(blockS ind W ws).toArray⟩) ∧ Below w.heap.size w w' := by
  obtain ⟨A, c, rfl, hc, hm, hx⟩ := hv.open_
  unfold maxLen at hm
  have HX := Lib.hid hx
  have HV := Lib.hid hv
  have HSUM := Lib.hid hsum
  clear hv hx hsum
  cases ws with
  | nil =>
    simp only [List.length_nil]
    have e0 : ((0 : Int) == 0) = true := rfl
    go_enter Tryz.func25, Tryz.ntmps25
    go_wp2_with fail
    go_ret
    exact ⟨rfl, Below.refl _ _⟩
  | cons u r =>
    obtain ⟨b, o, rfl, hu0⟩ := HX.out 0 u rfl
    simp only [Nat.add_zero] at hu0
    have hlu : u.length ≤ 1000000 := Nat.le_trans (sumL_mem (by simp)) HSUM.out
    simp only [List.length_cons] at hc hm hws ⊢
    have e1 : (((r.length : Int) + 1) == 0) = false := by rw [beq_eq_false_iff_ne]; omega
    obtain ⟨I, hI⟩ : ∃ I, ind ++ u = I := ⟨_, rfl⟩
    have hca := cat_run hI (by omega)
    have HI := Lib.hid hI
    clear hI
    go_enter Tryz.func25, Tryz.ntmps25
    go_wp2_with fail
    clear hca hu0 e1
    go_loopw [7, 8, 9] (fun ov lv iv wr => ∃ (k : Nat) (O L : List UInt8), k ≤ r.length ∧ iv = .int .i64 ((k : Int) + 1) ∧ ov = .string ⟨O.toArray⟩ ∧ lv = .string ⟨L.toArray⟩ ∧ (bfold ind W u (r.take k)) = (O ++ L, L.length) ∧ Below w.heap.size w wr) (fun _ _ iv _ => r.length + 1 - (intOf iv).toNat)
    case atStart => exact ⟨0, [], I, Nat.zero_le _, rfl, rfl, rfl, by simp [bfold, ← HI.out], Below.refl _ _⟩
    case round =>
      obtain ⟨k, O, L, hk, rfl, rfl, rfl, hf, hB⟩ := hrel
      have HB := Lib.hid hB
      have hlen := bfold_len (ind := ind) (W := W) hi u (r.take k)
      rw [hf] at hlen
      have hs1 := sumL_take r k
      have hs2 := HSUM.out
      rw [sumL_cons] at hlen hs2
      simp only [List.length_cons, List.length_take, List.length_append] at hlen
      have hll : L.length ≤ 20000000 := by omega
      have hol : O.length + L.length ≤ 20000000 := by omega
      by_cases hlt2 : k < r.length
      · obtain ⟨t, ht⟩ : ∃ t, r[k]? = some t := ⟨_, List.getElem?_eq_getElem hlt2⟩
        obtain ⟨A', c', hv', _, _, hxx⟩ := Strs.open_ (HV.out.below hB)
        obtain ⟨b', o', hA', hcx⟩ := hxx (k + 1) t ht
        obtain ⟨rfl, _, rfl⟩ := (by simpa using hv' : some (⟨b, o, none⟩ : Addr) = A' ∧ True ∧ c = c')
        obtain ⟨rfl, rfl⟩ := (by simpa using hA' : b = b' ∧ o = o')
        have hs3 := sumL_mem (List.mem_of_getElem? ht)
        have htl : t.length ≤ 1000000 := by omega
        have HS := Lib.hid (bfold_snoc (ind := ind) (W := W) u ht)
        have HF := Lib.hid hf
        clear hv' hxx hA' ht hlen hs1 hs2 hs3 hf hB
        by_cases hfit : bfit W L.length t = true
        · have hf := hfit
          unfold bfit at hf
          have e2 : decide ((L.length : Int) + 1 + (t.length : Int) ≤ W) = true := by
            rw [decide_eq_true_iff] at hf ⊢
            omega
          have HFT := Lib.hid hfit
          have hca1 := cat_run (rfl : [32] ++ t = 32 :: t) (by simp; omega)
          obtain ⟨L2, hL2⟩ : ∃ L2, L ++ (32 :: t) = L2 := ⟨_, rfl⟩
          have hca2 := cat_run hL2 (by simp; omega)
          have HL2 := Lib.hid hL2
          clear hf hfit hL2
          go_wp2_with fail
          clear hca1 hca2 e2
          go_roundw
          case rel =>
            refine ⟨k + 1, O, L2, by omega, by go_num, rfl, rfl, ?_, HB.out⟩
            rw [HS.out, HF.out, ← HL2.out]
            unfold bstep bgap blen
            rw [if_pos HFT.out, if_pos HFT.out]
            simp
            omega
          case measure => simp [intOf]; omega
        · have hf := hfit
          unfold bfit at hf
          have e2 : decide ((L.length : Int) + 1 + (t.length : Int) ≤ W) = false := by
            rw [decide_eq_true_iff] at hf
            rw [decide_eq_false_iff_not]
            omega
          have HFT := Lib.hid hfit
          obtain ⟨L1, hL1⟩ : ∃ L1, L ++ [10] = L1 := ⟨_, rfl⟩
          have hca1 := cat_run hL1 (by simp; omega)
          have hl1 : L1.length = L.length + 1 := by rw [← hL1]; simp
          obtain ⟨O2, hO2⟩ : ∃ O2, O ++ L1 = O2 := ⟨_, rfl⟩
          have hca2 := cat_run hO2 (by omega)
          obtain ⟨I2, hI2⟩ : ∃ I2, ind ++ [32, 32, 32, 32] = I2 := ⟨_, rfl⟩
          have hca3 := cat_run hI2 (by simp; omega)
          have hl2 : I2.length = ind.length + 4 := by rw [← hI2]; simp
          obtain ⟨L2, hL2⟩ : ∃ L2, I2 ++ t = L2 := ⟨_, rfl⟩
          have hca4 := cat_run hL2 (by omega)
          have HL1 := Lib.hid hL1
          have HL2 := Lib.hid hL2
          have HI2 := Lib.hid hI2
          have HO2 := Lib.hid hO2
          clear hf hfit hL1 hl1 hL2 hl2 hO2 hI2
          go_wp2_with fail
          clear hca1 hca2 hca3 hca4 e2
          go_roundw
          case rel =>
            refine ⟨k + 1, O2, L2, by omega, by go_num, rfl, rfl, ?_, HB.out⟩
            rw [HS.out, HF.out, ← HL2.out, ← HO2.out, ← HL1.out, ← HI2.out]
            unfold bstep bgap blen
            rw [if_neg HFT.out, if_neg HFT.out]
            simp
            omega
          case measure => simp [intOf]; omega
      · obtain rfl : k = r.length := by omega
        rw [List.take_length] at hf
        obtain ⟨R, hR⟩ : ∃ R, O ++ L = R := ⟨_, rfl⟩
        have hrl : R.length = O.length + L.length := by rw [← hR]; simp
        have hca1 := cat_run hR (by omega)
        have hca2 := cat_run (rfl : R ++ [10] = R ++ [10]) (by simp; omega)
        have HF : Hid (blockS ind W (u :: r) = R ++ [10]) := Lib.hid (by rw [blockS, hf, hR])
        clear hlen hs1 hs2 hf hB hrl hR
        go_wp2_with fail
        go_ret
        exact ⟨by rw [HF.out]; rfl, HB.out⟩
end Go.Proofs.YtpmbfcogkoiogaaGreatDoor
end
section
namespace Go.Proofs.YtpmbfcogkoiogaaGreatDoor
open Go.RowKit
attribute [local go_sem ↓] Go.wp_at_zero Go.wp_at_succ
set_option maxRecDepth 100000 in
set_option maxHeartbeats 8000000 in
theorem ref_print (w : World) (v : Value) (l : List StmD) (W : Int) (h : Stms w v l) (ho : ∀ x ∈ l, StmOk x) (hs : PrSz l) :
    Calls Tryz.prog 7 #[v, .int .i64 W] w (PrintPost w (printS l W)) := by
  have H := Lib.hid h
  have HS := Lib.hid hs
  have HO := Lib.hid ho
  obtain ⟨A1, c1, rfl, hc1, hm1, -⟩ := h.open_
  unfold maxLen at hm1
  clear h hs ho
  obtain ⟨⟨r1, r2⟩, hR⟩ : ∃ R, printS l W = R := ⟨_, rfl⟩
  rw [hR]
  have HR := Lib.hid hR
  clear hR
  obtain ⟨⟨ws, z⟩, hW⟩ : ∃ R, allW l = R := ⟨_, rfl⟩
  have HW := Lib.hid hW
  clear hW
  go_enter Tryz.func7, Tryz.ntmps7
  go_wp2_with fail
  refine (ref_all _ _ l H.out HO.out).mono ?_
  rw [HW.out]
  rintro e w3 ⟨v3, rfl, hv3, hb3⟩
  have HB3 := Lib.hid hb3
  obtain ⟨A3, c3, rfl, -⟩ := hv3.open_
  clear hv3 hb3
  by_cases hz : z = 0
  · subst hz
    have e1 : ((0 : Int) != 0) = false := rfl
    have hall := allW_fine (HW.out ▸ rfl : (allW l).2 = 0)
    have HALL := Lib.hid hall
    have HQ : Hid ((if 40000 < (prnS W 0 l).length then (([], 15) : List UInt8 × Int) else (prnS W 0 l, 0)) = (r1, r2)) := Lib.hid (by
      have h1 := HR.out
      unfold printS at h1
      rw [HW.out, if_neg (by simp)] at h1
      exact h1)
    have hfew := HS.out.few
    clear hall
    go_wp2_with fail
    clear e1
    go_loopw [8, 9, 10] (fun sv dv iv wr => ∃ i : Nat, i ≤ l.length ∧ iv = .int .i64 i ∧ sv = .string ⟨(prnS W 0 (l.take i)).toArray⟩ ∧ dv = .int .i64 (depS 0 (l.take i)) ∧ Below w3.heap.size w3 wr) (fun _ _ iv _ => l.length - (intOf iv).toNat)
    case atStart => exact ⟨0, Nat.zero_le _, rfl, rfl, rfl, Below.refl _ _⟩
    case round =>
      obtain ⟨wo, rfl⟩ : ∃ wo, wo = wr := ⟨_, rfl⟩
      obtain ⟨i, hi, rfl, rfl, rfl, hB⟩ := hrel
      have HBI := Lib.hid hB
      have HB := Lib.hid (then_ HB3.out hB)
      have hs3 := HS.out.sum
      have hs4 := HS.out.num
      by_cases hlt : i < l.length
      · obtain ⟨y, hy⟩ : ∃ y, l[i]? = some y := ⟨_, List.getElem?_eq_getElem hlt⟩
        obtain ⟨A', c', hv, _, _, hxx⟩ := H.out.open_
        obtain ⟨b, o, tv, pv, hA, g0, g1, g2, g3, hT, hP⟩ := hxx i y hy
        obtain ⟨rfl, _, rfl⟩ := (by simpa using hv : A1 = A' ∧ True ∧ c1 = c')
        subst hA
        obtain ⟨T1, d1, rfl, -⟩ := hT.open_
        obtain ⟨P1, d2, rfl, -⟩ := hP.open_
        have hmem := List.mem_of_getElem? hy
        have HK := Lib.hid (formed_kind (HALL.out y hmem))
        have HK0 := Lib.hid (formed_none (HALL.out y hmem))
        have HN := Lib.hid (HS.out.ok y hmem)
        have HT := Lib.hid hT
        have HP := Lib.hid hP
        have hs1 := sumL_sub (List.take_sublist i l)
        have hs2 := sumL_sub (List.singleton_sublist.2 hmem)
        have hs5 := prnS_len W (l.take i) 0
        have hs6 := indS_len (atD (depS 0 (l.take i)) y.kind)
        have hs7 := dep_le (l.take i) 0
        have hs8 := blockS_len (atD (depS 0 (l.take i)) y.kind) W (wordsS y)
        rw [List.length_take] at hs7
        simp only [List.flatMap_cons, List.flatMap_nil, List.append_nil] at hs2
        have HNX := Lib.hid (prnS_snoc hy W 0)
        have HDX := Lib.hid (dep_snoc hy 0)
        obtain ⟨X, hX⟩ : ∃ X, prnS W 0 (l.take i) = X := ⟨_, rfl⟩
        obtain ⟨D, hD⟩ : ∃ D, depS 0 (l.take i) = D := ⟨_, rfl⟩
        obtain ⟨wy, hwy⟩ : ∃ wy, wordsS y = wy := ⟨_, rfl⟩
        rw [hX] at hs5 HNX ⊢
        rw [hD] at hs6 hs7 hs8 HNX HDX ⊢
        rw [hwy] at hs2 hs8 HNX
        have HWY := Lib.hid hwy
        obtain ⟨BL, hBL⟩ : ∃ BL, blockS (indS (atD D y.kind)) W wy = BL := ⟨_, rfl⟩
        rw [hBL] at hs8 HNX
        have hxl : X.length ≤ 10000000 := by omega
        have hyl : wy.length ≤ 10000 := by omega
        have hys : sumL wy ≤ 1000000 := by omega
        have hdl : -1000000 ≤ D ∧ D ≤ 1000000 := by omega
        have hal : -1000000 ≤ atD D y.kind ∧ atD D y.kind ≤ 1000000 := by unfold atD; split <;> omega
        have hbl : BL.length ≤ 20000000 := by omega
        have HZ := Lib.hid (And.intro hyl (And.intro hys (And.intro hdl (And.intro hal hs6))))
        obtain ⟨XB, hXB⟩ : ∃ XB, X ++ BL = XB := ⟨_, rfl⟩
        have hca := cat_run hXB (by omega)
        rw [hXB] at HNX
        have HBL := Lib.hid hBL
        have k0 := cellB g0 HB.out
        have k1 := cellB g1 HB.out
        have k2 := cellB g2 HB.out
        have k3 := cellB g3 HB.out
        clear hxx hv hT hP hB hmem hy hs1 hs2 hs3 hs4 hs5 hs6 hs7 hs8 hxl hyl hys hdl hal hbl hX hD hwy hBL hXB g0 g1 g2 g3
        go_wp2_with fail
        refine (ref_depthAt _ D y.kind _ _ _ HZ.out.2.2.1).mono ?_
        rintro e w4 ⟨rfl, hb4⟩
        have HB4 := Lib.hid (then_ HB.out hb4)
        have HBI4 := Lib.hid (then_ HBI.out hb4)
        have m0 := cellB k0 hb4
        have m1 := cellB k1 hb4
        have m2 := cellB k2 hb4
        have m3 := cellB k3 hb4
        clear hb4 k0 k1 k2 k3
        go_wp2_with fail
        refine (ref_words _ y _ _ (Strs.below HT.out HB4.out) (Strs.below HP.out HB4.out) HK.out HK0.out (by have := HN.out; omega) (by have := HN.out; omega)).mono ?_
        rw [HWY.out]
        rintro e w5 ⟨v5, rfl, hv5, hb5⟩
        obtain ⟨A5, c5, rfl, -⟩ := hv5.open_
        have HV5 := Lib.hid hv5
        have HB5 := Lib.hid (then_ HB4.out hb5)
        have HBI5 := Lib.hid (then_ HBI4.out hb5)
        clear hv5 hb5 m0 m1 m2 m3
        go_wp2_with fail
        refine (ref_indent _ _ HZ.out.2.2.2.1).mono ?_
        rintro e w6 ⟨rfl, rfl⟩
        go_wp2_with fail
        refine (ref_rblock _ _ wy _ W HV5.out (Nat.le_trans HZ.out.2.2.2.2 (by omega)) HZ.out.1 HZ.out.2.1).mono ?_
        rw [HBL.out]
        rintro e w7 ⟨rfl, hb7⟩
        have HBI7 := Lib.hid (then_ HBI5.out hb7)
        clear hb7
        go_wp2_with fail
        clear hca
        go_roundw
        case rel => exact ⟨i + 1, by omega, by go_num, by rw [HNX.out], by rw [HDX.out], HBI7.out⟩
        case measure => simp [intOf]; omega
      · obtain rfl : i = l.length := by omega
        rw [List.take_length]
        have hs5 := prnS_len W l 0
        obtain ⟨X, hX⟩ : ∃ X, prnS W 0 l = X := ⟨_, rfl⟩
        rw [hX] at hs5 HQ ⊢
        have hxl : X.length ≤ 10000000 := by omega
        clear hs3 hs4 hs5 hX hB
        by_cases hlarge : 40000 < X.length
        · have e1 : decide ((40000 : Int) < (X.length : Int)) = true := decide_eq_true (by omega)
          have e2 : decide (40000 < X.length) = true := decide_eq_true hlarge
          have HQ2 : Hid (r1 = [] ∧ r2 = 15) := Lib.hid (by
            have h1 := HQ.out
            rw [if_pos hlarge] at h1
            cases h1
            exact ⟨rfl, rfl⟩)
          clear hlarge
          go_wp2_with fail
          go_ret2
          rw [HQ2.out.1, HQ2.out.2]
          exact ⟨rfl, HB.out⟩
        · have e1 : decide ((40000 : Int) < (X.length : Int)) = false := decide_eq_false (by omega)
          have e2 : decide (40000 < X.length) = false := decide_eq_false hlarge
          have HQ2 : Hid (r1 = X ∧ r2 = 0) := Lib.hid (by
            have h1 := HQ.out
            rw [if_neg hlarge] at h1
            cases h1
            exact ⟨rfl, rfl⟩)
          clear hlarge
          go_wp2_with fail
          go_ret2
          rw [HQ2.out.1, HQ2.out.2]
          exact ⟨rfl, HB.out⟩
  · have e1 : (z != 0) = true := by simpa using hz
    have HQ : Hid (r1 = [] ∧ r2 = z) := Lib.hid (by
      have h1 := HR.out
      unfold printS at h1
      rw [HW.out, if_pos hz] at h1
      cases h1
      exact ⟨rfl, rfl⟩)
    go_wp2_with fail
    go_ret2
    rw [HQ.out.1, HQ.out.2]
    exact ⟨rfl, HB3.out⟩
/-- what Of returns -/
def ofS (l : List StmD) (W : Int) : List PartD × List UInt8 × Int :=
  if (printS l W).2 = 0 then (prnD W true 0 l, if l.isEmpty then [] else [10], 0) else ([], [], (printS l W).2)
def OfPost (w : World) (r : List PartD × List UInt8 × Int) (e : Ending) (w' : World) : Prop :=
  ∃ v, e = .returned (.tuple #[.agg #[v, .string ⟨r.2.1.toArray⟩], .int .i64 r.2.2]) ∧ Parts w' v r.1 ∧ Below w.heap.size w w'
theorem print_len {l : List StmD} {W : Int} : (printS l W).1.length ≤ 40000 := by
  unfold printS
  split
  · simp
  · split
    · simp
    · dsimp only; omega
set_option maxRecDepth 100000 in
set_option maxHeartbeats 4000000 in
theorem of_any (w : World) (v : Value) (l : List StmD) (W : Int) (h : Stms w v l) (hM : MaxAt w) (hF : FormsAt w) (hs : PrSz l) :
    Calls Tryz.prog 8 #[v, .int .i64 W] w (OfPost w (ofS l W)) := by
  have H := Lib.hid h
  have HF := Lib.hid hF
  have HM := Lib.hid hM
  have HS := Lib.hid hs
  obtain ⟨A1, c1, rfl, -⟩ := h.open_
  clear h hF hs hM
  obtain ⟨⟨S, z⟩, hp⟩ : ∃ R, printS l W = R := ⟨_, rfl⟩
  have HP := Lib.hid hp
  have HL : Hid (S.length ≤ 40000) := Lib.hid (by have := print_len (l := l) (W := W); rw [hp] at this; exact this)
  clear hp
  obtain ⟨R, hR⟩ : ∃ R, ofS l W = R := ⟨_, rfl⟩
  rw [hR]
  have HRR := Lib.hid hR
  clear hR
  go_enter Tryz.func8, Tryz.ntmps8
  go_wp2_with fail
  refine (print_any _ _ l W (H.out.below (new_ (Below.refl _ _) _)) (HF.out.below (new_ (Below.refl _ _) _)) HS.out).mono ?_
  rw [HP.out]
  rintro e w2 ⟨rfl, hb2⟩
  have hr2 := (Row.new w 30 #[.slice none 0 0, .string ⟨#[]⟩]).below hb2 (by simp)
  have HR2 := Lib.hid hr2
  have HB2 := Lib.hid (then_ (new_ (Below.refl _ w) (.cells #[.slice none 0 0, .string ⟨#[]⟩] 30)) hb2)
  have c0 := hr2.cell (i := 0) rfl
  have c1' := hr2.cell (i := 1) rfl
  have f0 := hr2.free 0
  have f1 := hr2.free 1
  have hlt := hr2.lt
  clear hr2 hb2
  dsimp only
  by_cases hz : z = 0
  · subst hz
    have e1 : ((0 : Int) != 0) = false := rfl
    have HD : Hid (docS S = (prnD W true 0 l, if l.isEmpty then [] else [10], 0, 0)) := Lib.hid (by
      have h1 := print_doc (l := l) (W := W) (by rw [HP.out])
      rw [HP.out] at h1
      exact h1)
    have HO : Hid (R = (prnD W true 0 l, if l.isEmpty then [] else [10], 0)) := Lib.hid (by rw [← HRR.out]; unfold ofS; rw [HP.out, if_pos rfl])
    obtain ⟨d, hd⟩ : ∃ d, prnD W true 0 l = d := ⟨_, rfl⟩
    obtain ⟨tl, htl⟩ : ∃ tl, (if l.isEmpty then ([] : List UInt8) else [10]) = tl := ⟨_, rfl⟩
    rw [hd, htl] at HD HO
    clear hd htl
    go_wp2_with fail
    refine (doc_read_t _ S (HM.out.below HB2.out) (by have := HL.out; omega) (HF.out.below HB2.out)).mono ?_
    rw [HD.out]
    rintro e w3 ⟨v3, rfl, hp3, hb3⟩
    obtain ⟨A3, c3, rfl⟩ := hp3.parts.form
    have HR3 := Lib.hid (HR2.out.below hb3 HR2.out.lt)
    have HP3 := Lib.hid hp3
    have HB3 := Lib.hid (then_ HB2.out hb3)
    have g0 := HR3.out.cell (i := 0) rfl
    have g1 := HR3.out.cell (i := 1) rfl
    have k0 := HR3.out.free 0
    have k1 := HR3.out.free 1
    have hlt3 := HR3.out.lt
    clear hp3 hb3 c0 c1' f0 f1
    go_wp2_with fail
    obtain ⟨WF, hWF⟩ : ∃ WF, WF = (((w3.setCell ⟨w.heap.size, 0, none⟩ (.slice A3 d.length c3)).setCell ⟨w.heap.size, 1, none⟩ (.string ⟨tl.toArray⟩)).alloc (.cells #[.slice A3 d.length c3, .string ⟨tl.toArray⟩] 30)) := ⟨_, rfl⟩
    have hrow : Row WF w.heap.size 30 #[.slice A3 d.length c3, .string ⟨tl.toArray⟩] := by
      rw [hWF]
      exact ((HR3.out.set 0 _).set 1 _).alloc _
    have hbel : Below w.heap.size w WF := by
      rw [hWF]
      exact ((HB3.out.setCell (p := ⟨w.heap.size, 0, none⟩) (Nat.le_refl _) _).setCell (p := ⟨w.heap.size, 1, none⟩) (Nat.le_refl _) _).alloc (by have := HB3.out.size; simpa using this) _
    have hpar : Parts WF (.slice A3 d.length c3) d := by
      rw [hWF]
      exact (HP3.out.box (by decide) (by decide) HR3.out (fun s e => by cases e)).below (new_ (Below.refl _ _) _)
    rw [← hWF]
    have d0 := hrow.cell (i := 0) rfl
    have d1 := hrow.cell (i := 1) rfl
    have hltF := hrow.lt
    clear hWF hrow
    refine bodyPost_ret (v := .tuple #[.agg #[.slice A3 d.length c3, .string ⟨tl.toArray⟩], .int .i64 0]) (by simp [results, Tryz.results8, go_sem, d0, d1]) rfl ?_
    rw [HO.out]
    exact ⟨_, rfl, hpar, hbel⟩
  · have e1 : (z != 0) = true := by simpa using hz
    have HO : Hid (R = ([], [], z)) := Lib.hid (by rw [← HRR.out]; unfold ofS; rw [HP.out, if_neg hz])
    clear hz
    go_wp2_with fail
    obtain ⟨WF, hWF⟩ : ∃ WF, WF = ((w2.setCell ⟨w.heap.size, 0, none⟩ (.slice none 0 0)).setCell ⟨w.heap.size, 1, none⟩ (.string ⟨#[]⟩)) := ⟨_, rfl⟩
    have hrow : Row WF w.heap.size 30 #[.slice none 0 0, .string ⟨#[]⟩] := by
      rw [hWF]
      exact ((HR2.out.set 0 _).set 1 _)
    have hbel : Below w.heap.size w WF := by
      rw [hWF]
      exact ((HB2.out.setCell (p := ⟨w.heap.size, 0, none⟩) (Nat.le_refl _) _).setCell (p := ⟨w.heap.size, 1, none⟩) (Nat.le_refl _) _)
    rw [← hWF]
    have d0 := hrow.cell (i := 0) rfl
    have d1 := hrow.cell (i := 1) rfl
    have hltF := hrow.lt
    clear hWF hrow
    refine bodyPost_ret (v := .tuple #[.agg #[.slice none 0 0, .string ⟨#[]⟩], .int .i64 z]) (by simp [results, Tryz.results8, go_sem, d0, d1]) rfl ?_
    rw [HO.out]
    exact ⟨.slice none 0 0, rfl, Parts.nil _, hbel⟩
set_option maxRecDepth 100000 in
set_option maxHeartbeats 4000000 in
theorem ref_of (w : World) (v : Value) (l : List StmD) (W : Int) (h : Stms w v l) (ho : ∀ x ∈ l, StmOk x) (hs : PrSz l) :
    Calls Tryz.prog 9 #[v, .int .i64 W] w (OfPost w (ofS l W)) := by
  have H := Lib.hid h
  have HO0 := Lib.hid ho
  have HS := Lib.hid hs
  obtain ⟨A1, c1, rfl, -⟩ := h.open_
  clear h hs ho
  obtain ⟨⟨S, z⟩, hp⟩ : ∃ R, printS l W = R := ⟨_, rfl⟩
  have HP := Lib.hid hp
  have HL : Hid (S.length ≤ 40000) := Lib.hid (by have := print_len (l := l) (W := W); rw [hp] at this; exact this)
  clear hp
  obtain ⟨R, hR⟩ : ∃ R, ofS l W = R := ⟨_, rfl⟩
  rw [hR]
  have HRR := Lib.hid hR
  clear hR
  go_enter Tryz.func9, Tryz.ntmps9
  go_wp2_with fail
  refine (ref_print _ _ l W (H.out.below (new_ (Below.refl _ _) _)) HO0.out HS.out).mono ?_
  rw [HP.out]
  rintro e w2 ⟨rfl, hb2⟩
  have hr2 := (Row.new w 35 #[.slice none 0 0, .string ⟨#[]⟩]).below hb2 (by simp)
  have HR2 := Lib.hid hr2
  have HB2 := Lib.hid (then_ (new_ (Below.refl _ w) (.cells #[.slice none 0 0, .string ⟨#[]⟩] 35)) hb2)
  have c0 := hr2.cell (i := 0) rfl
  have c1' := hr2.cell (i := 1) rfl
  have f0 := hr2.free 0
  have f1 := hr2.free 1
  have hlt := hr2.lt
  clear hr2 hb2
  dsimp only
  by_cases hz : z = 0
  · subst hz
    have e1 : ((0 : Int) != 0) = false := rfl
    have HD : Hid (docS S = (prnD W true 0 l, if l.isEmpty then [] else [10], 0, 0)) := Lib.hid (by
      have h1 := print_doc (l := l) (W := W) (by rw [HP.out])
      rw [HP.out] at h1
      exact h1)
    have HO : Hid (R = (prnD W true 0 l, if l.isEmpty then [] else [10], 0)) := Lib.hid (by rw [← HRR.out]; unfold ofS; rw [HP.out, if_pos rfl])
    obtain ⟨d, hd⟩ : ∃ d, prnD W true 0 l = d := ⟨_, rfl⟩
    obtain ⟨tl, htl⟩ : ∃ tl, (if l.isEmpty then ([] : List UInt8) else [10]) = tl := ⟨_, rfl⟩
    rw [hd, htl] at HD HO
    clear hd htl
    go_wp2_with fail
    refine (ref_doc_t _ S (by have := HL.out; omega)).mono ?_
    rw [HD.out]
    rintro e w3 ⟨v3, rfl, hp3, hb3⟩
    obtain ⟨A3, c3, rfl⟩ := hp3.parts.form
    have HR3 := Lib.hid (HR2.out.below hb3 HR2.out.lt)
    have HP3 := Lib.hid hp3
    have HB3 := Lib.hid (then_ HB2.out hb3)
    have g0 := HR3.out.cell (i := 0) rfl
    have g1 := HR3.out.cell (i := 1) rfl
    have k0 := HR3.out.free 0
    have k1 := HR3.out.free 1
    have hlt3 := HR3.out.lt
    clear hp3 hb3 c0 c1' f0 f1
    go_wp2_with fail
    obtain ⟨WF, hWF⟩ : ∃ WF, WF = (((w3.setCell ⟨w.heap.size, 0, none⟩ (.slice A3 d.length c3)).setCell ⟨w.heap.size, 1, none⟩ (.string ⟨tl.toArray⟩)).alloc (.cells #[.slice A3 d.length c3, .string ⟨tl.toArray⟩] 35)) := ⟨_, rfl⟩
    have hrow : Row WF w.heap.size 35 #[.slice A3 d.length c3, .string ⟨tl.toArray⟩] := by
      rw [hWF]
      exact ((HR3.out.set 0 _).set 1 _).alloc _
    have hbel : Below w.heap.size w WF := by
      rw [hWF]
      exact ((HB3.out.setCell (p := ⟨w.heap.size, 0, none⟩) (Nat.le_refl _) _).setCell (p := ⟨w.heap.size, 1, none⟩) (Nat.le_refl _) _).alloc (by have := HB3.out.size; simpa using this) _
    have hpar : Parts WF (.slice A3 d.length c3) d := by
      rw [hWF]
      exact (HP3.out.box (by decide) (by decide) HR3.out (fun s e => by cases e)).below (new_ (Below.refl _ _) _)
    rw [← hWF]
    have d0 := hrow.cell (i := 0) rfl
    have d1 := hrow.cell (i := 1) rfl
    have hltF := hrow.lt
    clear hWF hrow
    refine bodyPost_ret (v := .tuple #[.agg #[.slice A3 d.length c3, .string ⟨tl.toArray⟩], .int .i64 0]) (by simp [results, Tryz.results9, go_sem, d0, d1]) rfl ?_
    rw [HO.out]
    exact ⟨_, rfl, hpar, hbel⟩
  · have e1 : (z != 0) = true := by simpa using hz
    have HO : Hid (R = ([], [], z)) := Lib.hid (by rw [← HRR.out]; unfold ofS; rw [HP.out, if_neg hz])
    clear hz
    go_wp2_with fail
    obtain ⟨WF, hWF⟩ : ∃ WF, WF = ((w2.setCell ⟨w.heap.size, 0, none⟩ (.slice none 0 0)).setCell ⟨w.heap.size, 1, none⟩ (.string ⟨#[]⟩)) := ⟨_, rfl⟩
    have hrow : Row WF w.heap.size 35 #[.slice none 0 0, .string ⟨#[]⟩] := by
      rw [hWF]
      exact ((HR2.out.set 0 _).set 1 _)
    have hbel : Below w.heap.size w WF := by
      rw [hWF]
      exact ((HB2.out.setCell (p := ⟨w.heap.size, 0, none⟩) (Nat.le_refl _) _).setCell (p := ⟨w.heap.size, 1, none⟩) (Nat.le_refl _) _)
    rw [← hWF]
    have d0 := hrow.cell (i := 0) rfl
    have d1 := hrow.cell (i := 1) rfl
    have hltF := hrow.lt
    clear hWF hrow
    refine bodyPost_ret (v := .tuple #[.agg #[.slice none 0 0, .string ⟨#[]⟩], .int .i64 z]) (by simp [results, Tryz.results9, go_sem, d0, d1]) rfl ?_
    rw [HO.out]
    exact ⟨.slice none 0 0, rfl, Parts.nil _, hbel⟩
end Go.Proofs.YtpmbfcogkoiogaaGreatDoor
end
