/- Layout: the printing of the reference: spaces, indents, blocks. -/
import Derived.Test.YtpmbfcogkoiogaaDoorRefBlank
import Derived.Test.YtpmbfcogkoiogaaDoorPrnA
namespace Go.Proofs.YtpmbfcogkoiogaaDoor
open Go.RowKit
attribute [local go_sem ↓] Go.wp_at_zero Go.wp_at_succ
theorem rep_snoc (k : Nat) (b : UInt8) : List.replicate k b ++ [b] = List.replicate (k + 1) b := by
  rw [List.replicate_succ', ]
set_option maxRecDepth 100000 in
theorem ref_spaces (w : World) (z : Int) (hz : 0 ≤ z ∧ z ≤ 1000) : Calls Tryd.prog 110 #[.int .i64 z] w fun e w' => e = .returned (.string ⟨(List.replicate z.toNat 32).toArray⟩) ∧ w = w' := by
  obtain ⟨n, rfl⟩ : ∃ n : Nat, z = n := ⟨z.toNat, by omega⟩
  rw [Int.toNat_natCast]
  have hn : n ≤ 1000 := by omega
  clear hz
  go_enter Tryd.func110, Tryd.ntmps110
  go_wp2_with fail
  go_loop [3, 4] (fun sv iv => ∃ k : Nat, k ≤ n ∧ iv = .int .i64 k ∧ sv = .string ⟨(List.replicate k 32).toArray⟩) (fun _ iv => n - (intOf iv).toNat)
  case atStart => exact ⟨0, Nat.zero_le _, rfl, rfl⟩
  case round =>
    obtain ⟨k, hk, rfl, rfl⟩ := hrel
    by_cases hlt : k < n
    · obtain ⟨Z, hZ⟩ : ∃ Z, List.replicate k (32 : UInt8) = Z := ⟨_, rfl⟩
      have hzl : Z.length = k := by rw [← hZ]; simp
      obtain ⟨Z2, hZ2⟩ : ∃ Z2, Z ++ [32] = Z2 := ⟨_, rfl⟩
      have hca := cat_run hZ2 (by simp; omega)
      have HZ : Hid (List.replicate (k + 1) (32 : UInt8) = Z2) := Lib.hid (by rw [← rep_snoc, hZ, hZ2])
      rw [hZ]
      clear hzl hZ2 hZ
      go_wp2_with fail
      go_round
      case rel => exact ⟨k + 1, by omega, by go_num, by rw [HZ.out]⟩
      case measure => simp [intOf]; omega
    · obtain rfl : k = n := by omega
      go_wp2_with fail
      go_ret
      exact ⟨rfl, rfl⟩
theorem ref_indent (w : World) (D : Int) (hD : -1000000 ≤ D ∧ D ≤ 1000000) : Calls Tryd.prog 71 #[.int .i64 D] w fun e w' => e = .returned (.string ⟨(indS D).toArray⟩) ∧ w = w' := by
  obtain ⟨h1, h2⟩ := hD
  go_enter Tryd.func71, Tryd.ntmps71
  go_wp2_with fail
  refine (ref_spaces _ _ (by omega)).mono ?_
  rintro e w2 ⟨rfl, rfl⟩
  go_wp2_with fail
  go_ret
  exact ⟨rfl, rfl⟩
theorem ref_depthAt (w : World) (D k : Int) (l tv pv : Value) (hD : -1000000 ≤ D ∧ D ≤ 1000000) : Calls Tryd.prog 68 #[.int .i64 D, .agg #[.int .i64 k, l, tv, pv]] w fun e w' => e = .returned (.tuple #[.int .i64 (atD D k), .int .i64 (nextD D k)]) ∧ Below w.heap.size w w' := by
  obtain ⟨h1, h2⟩ := hD
  by_cases h8 : k = 8
  · subst h8
    have e1 : ((8 : Int) == 8) = true := rfl
    go_enter Tryd.func68, Tryd.ntmps68
    go_wp2_with fail
    go_ret2
    exact ⟨rfl, new_ (Below.refl _ _) _⟩
  · by_cases h9 : k = 9
    · subst h9
      have e1 : ((9 : Int) == 8) = false := rfl
      have e2 : ((9 : Int) == 9) = true := rfl
      go_enter Tryd.func68, Tryd.ntmps68
      go_wp2_with fail
      go_ret2
      exact ⟨rfl, new_ (Below.refl _ _) _⟩
    · have e1 : (k == 8) = false := by simpa using h8
      have e2 : (k == 9) = false := by simpa using h9
      have HA : Hid (atD D k = D ∧ nextD D k = D) := Lib.hid ⟨by unfold atD; rw [if_neg h9], by unfold nextD; rw [if_neg h9, if_neg h8]⟩
      clear h8 h9
      go_enter Tryd.func68, Tryd.ntmps68
      go_wp2_with fail
      go_ret2
      rw [HA.out.1, HA.out.2]
      exact ⟨rfl, new_ (Below.refl _ _) _⟩
set_option maxHeartbeats 4000000 in
set_option maxRecDepth 100000 in
theorem ref_rblock (w : World) (v : Value) (ws : List (List UInt8)) (ind : List UInt8) (W : Int) (hv : Strs w v ws) (hi : ind.length ≤ 1000) (hws : ws.length ≤ 10000) (hsum : sumL ws ≤ 1000000) :
    Calls Tryd.prog 70 #[v, .string ⟨ind.toArray⟩, .int .i64 W] w fun e w' => e = .returned (.string ⟨(blockS ind W ws).toArray⟩) ∧ Below w.heap.size w w' := by
  obtain ⟨A, c, rfl, hc, hm, hx⟩ := hv.open_
  unfold maxLen at hm
  have HX := Lib.hid hx
  have HV := Lib.hid hv
  have HSUM := Lib.hid hsum
  clear hv hx hsum
  cases ws with
  | nil =>
    simp only [List.length_nil]
    have e0 : ((0 : Int) == 0) = true := rfl
    go_enter Tryd.func70, Tryd.ntmps70
    go_wp2_with fail
    go_ret
    exact ⟨rfl, Below.refl _ _⟩
  | cons u r =>
    obtain ⟨b, o, rfl, hu0⟩ := HX.out 0 u rfl
    simp only [Nat.add_zero] at hu0
    have hlu : u.length ≤ 1000000 := Nat.le_trans (sumL_mem (by simp)) HSUM.out
    simp only [List.length_cons] at hc hm hws ⊢
    have e1 : (((r.length : Int) + 1) == 0) = false := by rw [beq_eq_false_iff_ne]; omega
    obtain ⟨I, hI⟩ : ∃ I, ind ++ u = I := ⟨_, rfl⟩
    have hca := cat_run hI (by omega)
    have HI := Lib.hid hI
    clear hI
    go_enter Tryd.func70, Tryd.ntmps70
    go_wp2_with fail
    clear hca hu0 e1
    go_loopw [7, 8, 9] (fun ov lv iv wr => ∃ (k : Nat) (O L : List UInt8), k ≤ r.length ∧ iv = .int .i64 ((k : Int) + 1) ∧ ov = .string ⟨O.toArray⟩ ∧ lv = .string ⟨L.toArray⟩ ∧ (bfold ind W u (r.take k)) = (O ++ L, L.length) ∧ Below w.heap.size w wr) (fun _ _ iv _ => r.length + 1 - (intOf iv).toNat)
    case atStart => exact ⟨0, [], I, Nat.zero_le _, rfl, rfl, rfl, by simp [bfold, ← HI.out], Below.refl _ _⟩
    case round =>
      obtain ⟨k, O, L, hk, rfl, rfl, rfl, hf, hB⟩ := hrel
      have HB := Lib.hid hB
      have hlen := bfold_len (ind := ind) (W := W) hi u (r.take k)
      rw [hf] at hlen
      have hs1 := sumL_take r k
      have hs2 := HSUM.out
      rw [sumL_cons] at hlen hs2
      simp only [List.length_cons, List.length_take, List.length_append] at hlen
      have hll : L.length ≤ 20000000 := by omega
      have hol : O.length + L.length ≤ 20000000 := by omega
      by_cases hlt2 : k < r.length
      · obtain ⟨t, ht⟩ : ∃ t, r[k]? = some t := ⟨_, List.getElem?_eq_getElem hlt2⟩
        obtain ⟨A', c', hv', _, _, hxx⟩ := Strs.open_ (HV.out.below hB)
        obtain ⟨b', o', hA', hcx⟩ := hxx (k + 1) t ht
        obtain ⟨rfl, _, rfl⟩ := (by simpa using hv' : some (⟨b, o, none⟩ : Addr) = A' ∧ True ∧ c = c')
        obtain ⟨rfl, rfl⟩ := (by simpa using hA' : b = b' ∧ o = o')
        have hs3 := sumL_mem (List.mem_of_getElem? ht)
        have htl : t.length ≤ 1000000 := by omega
        have HS := Lib.hid (bfold_snoc (ind := ind) (W := W) u ht)
        have HF := Lib.hid hf
        clear hv' hxx hA' ht hlen hs1 hs2 hs3 hf hB
        by_cases hfit : bfit W L.length t = true
        · have hf := hfit
          unfold bfit at hf
          have e2 : decide ((L.length : Int) + 1 + (t.length : Int) ≤ W) = true := by
            rw [decide_eq_true_iff] at hf ⊢
            omega
          have HFT := Lib.hid hfit
          have hca1 := cat_run (rfl : [32] ++ t = 32 :: t) (by simp; omega)
          obtain ⟨L2, hL2⟩ : ∃ L2, L ++ (32 :: t) = L2 := ⟨_, rfl⟩
          have hca2 := cat_run hL2 (by simp; omega)
          have HL2 := Lib.hid hL2
          clear hf hfit hL2
          go_wp2_with fail
          clear hca1 hca2 e2
          go_roundw
          case rel =>
            refine ⟨k + 1, O, L2, by omega, by go_num, rfl, rfl, ?_, HB.out⟩
            rw [HS.out, HF.out, ← HL2.out]
            unfold bstep bgap blen
            rw [if_pos HFT.out, if_pos HFT.out]
            simp
            omega
          case measure => simp [intOf]; omega
        · have hf := hfit
          unfold bfit at hf
          have e2 : decide ((L.length : Int) + 1 + (t.length : Int) ≤ W) = false := by
            rw [decide_eq_true_iff] at hf
            rw [decide_eq_false_iff_not]
            omega
          have HFT := Lib.hid hfit
          obtain ⟨L1, hL1⟩ : ∃ L1, L ++ [10] = L1 := ⟨_, rfl⟩
          have hca1 := cat_run hL1 (by simp; omega)
          have hl1 : L1.length = L.length + 1 := by rw [← hL1]; simp
          obtain ⟨O2, hO2⟩ : ∃ O2, O ++ L1 = O2 := ⟨_, rfl⟩
          have hca2 := cat_run hO2 (by omega)
          obtain ⟨I2, hI2⟩ : ∃ I2, ind ++ [32, 32, 32, 32] = I2 := ⟨_, rfl⟩
          have hca3 := cat_run hI2 (by simp; omega)
          have hl2 : I2.length = ind.length + 4 := by rw [← hI2]; simp
          obtain ⟨L2, hL2⟩ : ∃ L2, I2 ++ t = L2 := ⟨_, rfl⟩
          have hca4 := cat_run hL2 (by omega)
          have HL1 := Lib.hid hL1
          have HL2 := Lib.hid hL2
          have HI2 := Lib.hid hI2
          have HO2 := Lib.hid hO2
          clear hf hfit hL1 hl1 hL2 hl2 hO2 hI2
          go_wp2_with fail
          clear hca1 hca2 hca3 hca4 e2
          go_roundw
          case rel =>
            refine ⟨k + 1, O2, L2, by omega, by go_num, rfl, rfl, ?_, HB.out⟩
            rw [HS.out, HF.out, ← HL2.out, ← HO2.out, ← HL1.out, ← HI2.out]
            unfold bstep bgap blen
            rw [if_neg HFT.out, if_neg HFT.out]
            simp
            omega
          case measure => simp [intOf]; omega
      · obtain rfl : k = r.length := by omega
        rw [List.take_length] at hf
        obtain ⟨R, hR⟩ : ∃ R, O ++ L = R := ⟨_, rfl⟩
        have hrl : R.length = O.length + L.length := by rw [← hR]; simp
        have hca1 := cat_run hR (by omega)
        have hca2 := cat_run (rfl : R ++ [10] = R ++ [10]) (by simp; omega)
        have HF : Hid (blockS ind W (u :: r) = R ++ [10]) := Lib.hid (by rw [blockS, hf, hR])
        clear hlen hs1 hs2 hf hB hrl hR
        go_wp2_with fail
        go_ret
        exact ⟨by rw [HF.out]; rfl, HB.out⟩
end Go.Proofs.YtpmbfcogkoiogaaDoor
