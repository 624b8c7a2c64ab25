/- Apart and Broken of the reference. -/
import Derived.Test.YtieclecpjjfhfaaRefSorted
import Derived.Test.YtieclecpjjfhfaaSubBroken
namespace Go.Proofs.Ytieclecpjjfhfaa
open Go.RowKit Go.Shelf
theorem keptS_take {l : List PairD} {k : Nat} {x : PairD} (h : l[k]? = some x) : keptS (l.take (k + 1)) = keptS (l.take k) ++ (if x.1 = x.2 then [] else [x]) := by
  rw [take_snoc h, keptS_snoc]
theorem badB_ref (wide : List PairD) (x : PairD) : badB wide x = (decide (x.1 = x.2) || !decide (x ∈ wide.map orderedS)) := by
  unfold badB
  congr 2
  rw [decide_eq_decide, sortedS_mem, List.mem_map]
theorem ref_hasPair_as (w : World) (v : Value) (l : List PairD) (p : PairD) (z : Bool) (hz : decide (p ∈ l.map orderedS) = z) (h : PairsAt w v l) :
    Calls Try.prog 119 #[v, .agg #[.string ⟨p.1.toArray⟩, .string ⟨p.2.toArray⟩]] w fun e w' => e = .returned (.bool z) ∧ Below w.heap.size w w' := hz ▸ ref_hasPair w v l p h
attribute [local go_sem ↓] Go.wp_at_zero Go.wp_at_succ
set_option maxRecDepth 100000 in
set_option maxHeartbeats 4000000 in
theorem ref_apart (w : World) (lv pv vv : Value) (l : List BindD) (pairs : List PairD) (vs : Form) (hl : BindAt w lv l) (hp : PairsAt w pv pairs) (hv : Strs w vv vs) (z : SubSz l pairs vs) (hN : (reqS l pairs vs).length ≤ 1000000) :
    Calls Try.prog 58 #[lv, pv, vv] w fun e w' => ∃ v, e = .returned (.tuple #[v, .bool (posS (reqS l pairs vs))]) ∧ PairsAt w' v (apartS l pairs vs) ∧ Below w.heap.size w w' := by
  obtain ⟨i0, hi, hj0, hj1, hj2⟩ := info_parts infoPair
  obtain ⟨R, hR⟩ : ∃ R, R = reqS l pairs vs := ⟨_, rfl⟩
  have HR := Lib.hid hR
  have HAP : Hid (apartS l pairs vs = sortedS (keptS R)) := Lib.hid (by unfold apartS; rw [sorted_kept, hR])
  have HNN := Lib.hid hN
  rw [← hR] at hN ⊢
  rw [HAP.out]
  clear hR
  go_enter Try.func58, Try.ntmps58
  go_wp2_with (go_at_call 116; (refine (ref_required _ _ _ _ l pairs vs hl hp hv z HNN.out).mono ?_; rintro e w1 ⟨v1, rfl, hv1, hb1⟩))
  rw [← HR.out] at hv1
  clear hl hp hv z
  obtain ⟨A, c, rfl, hc⟩ := own_form hv1
  have HB1 := Lib.hid hb1
  have HV1 := Lib.hid hv1
  clear hb1 hv1
  go_loopw [9, 10] (fun ov iv wr => ∃ k : Nat, k ≤ R.length ∧ iv = .int .i64 k ∧ wr.ownsRow w1.heap.size 124 2 ov (keptS (R.take k)).length ((keptS (R.take k)).flatMap pairCells) ∧ Below w1.heap.size w1 wr) (fun _ iv _ => R.length - (intOf iv).toNat)
  case atStart => exact ⟨0, Nat.zero_le _, rfl, World.ownsRow_made _ _ _ (Nat.le_refl _) (by decide) rfl, new_ (Below.refl _ _) _⟩
  case round =>
    obtain ⟨k, hk, rfl, hown, hb⟩ := hrel
    have hB := hb.size
    have hm : (keptS (R.take k)).length ≤ 1000000 := by have := keptS_len (R.take k); rw [List.length_take] at this; omega
    obtain ⟨M, hM⟩ : ∃ M, M = (keptS (R.take k)).length := ⟨_, rfl⟩
    obtain ⟨X, hX⟩ : ∃ X, X = (keptS (R.take k)).flatMap pairCells := ⟨_, rfl⟩
    by_cases hlt : k < R.length
    · obtain ⟨⟨x1, x2⟩, hy⟩ : ∃ x, R[k]? = some x := ⟨_, List.getElem?_eq_getElem hlt⟩
      have ha := own_below HV1.out hb
      obtain ⟨g, c', ea⟩ := own_some ha (by omega)
      obtain ⟨rfl, _, rfl⟩ := (by simpa using ea : A = some ⟨g, 0, none⟩ ∧ True ∧ c = c')
      obtain ⟨g1, g2⟩ := pair_cells ha hy
      have HKT := Lib.hid (keptS_take hy)
      have k0 : (0 : Int) ≤ (k : Int) := Int.natCast_nonneg _
      have k1 : (k : Int) < (R.length : Int) := by omega
      clear ha ea hy
      by_cases hx : x1 = x2
      · have HK2 : Hid (keptS (R.take (k + 1)) = keptS (R.take k)) := Lib.hid (by rw [HKT.out, if_pos hx, List.append_nil])
        have t1 : (x1 != x2) = false := by simp [hx]
        have t2 : (x1 == x2) = true := by simp [hx]
        clear hx hM hX M X
        go_wp2
        go_quiet (fail)
        go_wp2
        go_roundw
        case rel => exact ⟨k + 1, by omega, by go_num, by rw [HK2.out]; exact hown, below_drewN hb _⟩
        case measure => simp [intOf]; omega
      · have HK2 : Hid (keptS (R.take (k + 1)) = keptS (R.take k) ++ [(x1, x2)]) := Lib.hid (by rw [HKT.out, if_neg hx])
        have t1 : (x1 != x2) = true := by simp [hx]
        have t2 : (x1 == x2) = false := by simp [hx]
        rw [← hM, ← hX] at hown
        rw [← hM] at hm
        have HM := Lib.hid hM
        have HX := Lib.hid hX
        have HO := Lib.hid hown
        clear hx hM hX hown
        go_wp2
        go_quiet (fail)
        go_wp2_with (at_builtin; (refine wpList_append_own _ rfl (.tmp 33) (.tmp 38) 23 rfl w1.heap.size 124 i0 (.agg #[.string ⟨#[]⟩, .string ⟨#[]⟩]) 2 32 Try.underlying23 hi hj0 hj1 hj2 rfl (by decide) _ M X rfl (own_alloc (own_below HO.out (below_drewN (Below.refl _ _) _)) _) ⟨wr.heap.size, 0, none⟩ 1 1 [.string ⟨x1.toArray⟩, .string ⟨x2.toArray⟩] rfl rfl (cells_of' _ _ _ _ rfl rfl) (by simp [Value.oneCell']) (by unfold maxLen; omega) (by omega) (by simp; omega) ?_; intro v' wz hown' hgrow _))
        go_roundw
        case rel => exact ⟨k + 1, by omega, by go_num, by rw [HK2.out, List.length_append, List.flatMap_append, ← HM.out, ← HX.out]; exact hown', (new_ (below_drewN hb _) _).grown hgrow (by simp; omega) (own_block HO.out)⟩
        case measure => simp [intOf]; omega
    · obtain rfl : k = R.length := by omega
      rw [List.take_length] at hown hm hM
      have HKR : Hid (((M : Int) == (R.length : Int)) = posS R) := Lib.hid (by rw [posS_kept, hM, Bool.eq_iff_iff, beq_iff_eq, decide_eq_true_eq]; omega)
      obtain ⟨Q, hQ⟩ : ∃ Q, Q = keptS R := ⟨_, rfl⟩
      rw [← hQ] at hown hm hM
      have HQE := Lib.hid hQ
      obtain ⟨oA, oc, rfl, _⟩ := own_form hown
      have HQ := Lib.hid (Rds.of_own hown)
      have HM := Lib.hid hM
      rw [← hM]
      clear hown hQ hM hX X
      go_wp2_with (go_at_call 63; (refine (ref_sorted _ _ Q (by rw [HM.out]; exact HQ.out) (by omega)).mono ?_; rintro e w5 ⟨u5, rfl, hu5, hb5⟩))
      go_ret2
      exact ⟨u5, (by rw [HKR.out]; rfl), by rw [← HQE.out]; exact hu5, then_ (then_ HB1.out hb) hb5⟩
theorem two_set0 {W : World} {g : Nat} {T : TypeId} {u v : Value} (h : Row W g T #[u, v]) (a b : Value) : ((W.setCell ⟨g, 0, none⟩ a).setCell ⟨g, 1, none⟩ b).cell? ⟨g, 0, none⟩ = some a := ((h.set 0 a).set 1 b).cell (i := 0) rfl
theorem two_set1 {W : World} {g : Nat} {T : TypeId} {u v : Value} (h : Row W g T #[u, v]) (a b : Value) : ((W.setCell ⟨g, 0, none⟩ a).setCell ⟨g, 1, none⟩ b).cell? ⟨g, 1, none⟩ = some b := ((h.set 0 a).set 1 b).cell (i := 1) rfl
theorem bad_snoc {wide R : List PairD} {k : Nat} {x : PairD} (hx : R[k]? = some x) (h : ∀ q ∈ R.take k, badB wide q = false) (hb : badB wide x = false) : ∀ q ∈ R.take (k + 1), badB wide q = false := by
  rw [take_snoc hx]
  intro q hq
  rcases List.mem_append.1 hq with hq | hq
  · exact h q hq
  · simp at hq; rw [hq]; exact hb
theorem bad_hit {wide R : List PairD} {k : Nat} {x : PairD} (hx : R[k]? = some x) (h : ∀ q ∈ R.take k, badB wide q = false) (hb : badB wide x = true) : brokenS wide R = some x := by
  refine broken_hit (pre := R.take k) ?_ h hb
  rw [← take_snoc hx]
  exact List.take_prefix _ _
set_option maxRecDepth 100000 in
set_option maxHeartbeats 4000000 in
theorem ref_broken (w : World) (lv pv vv wv : Value) (l : List BindD) (pairs wide : List PairD) (vs : Form) (hl : BindAt w lv l) (hp : PairsAt w pv pairs) (hv : Strs w vv vs) (hw : PairsAt w wv wide) (z : SubSz l pairs vs) (hN : (reqS l pairs vs).length ≤ 1000000) :
    Calls Try.prog 60 #[lv, pv, vv, wv] w fun e w' => e = .returned (.tuple #[pairV ((brokenS wide (reqS l pairs vs)).getD ([], [])), .bool (brokenS wide (reqS l pairs vs)).isSome]) ∧ Below w.heap.size w w' := by
  obtain ⟨R, hR⟩ : ∃ R, R = reqS l pairs vs := ⟨_, rfl⟩
  have HR := Lib.hid hR
  have HNN := Lib.hid hN
  have HW := Lib.hid hw
  rw [← hR] at hN ⊢
  clear hR
  have hb0 : Below w.heap.size w (w.alloc (.cells #[.string ⟨#[]⟩, .string ⟨#[]⟩] 124)) := new_ (Below.refl _ _) _
  go_enter Try.func60, Try.ntmps60
  go_wp2_with (go_at_call 116; (refine (ref_required _ _ _ _ l pairs vs (hl.below hb0) (hp.below hb0) (hv.below hb0) z HNN.out).mono ?_; rintro e w1 ⟨v1, rfl, hv1, hb1⟩))
  rw [← HR.out] at hv1
  have hr1 : Row w1 w.heap.size 124 #[.string ⟨#[]⟩, .string ⟨#[]⟩] := (Row.new w _ _).below hb1 (by simp)
  have hB1 := then_ hb0 hb1
  clear hl hp hv hw z hb0 hb1
  obtain ⟨A, c, rfl, hc⟩ := own_form hv1
  have HB1 := Lib.hid hB1
  have hz1 := hB1.size
  have HV1 := Lib.hid hv1
  clear hB1 hv1
  go_loopw [11] (fun iv wr => ∃ k : Nat, k ≤ R.length ∧ iv = .int .i64 k ∧ Hid (∀ q ∈ R.take k, badB wide q = false) ∧ Below w1.heap.size w1 wr ∧ Row wr w.heap.size 124 #[.string ⟨#[]⟩, .string ⟨#[]⟩]) (fun iv _ => R.length - (intOf iv).toNat)
  case atStart => exact ⟨0, Nat.zero_le _, rfl, Lib.hid (by simp), Below.refl _ _, hr1⟩
  case round =>
    obtain ⟨k, hk, rfl, HP, hb, hr⟩ := hrel
    have hB := hb.size
    have hlr := hr.lt
    have HROW := Lib.hid hr
    have z0 := hr.cell (i := 0) (v := .string ⟨#[]⟩) rfl
    have z1 := hr.cell (i := 1) (v := .string ⟨#[]⟩) rfl
    have f0 := hr.free
    by_cases hlt : k < R.length
    · obtain ⟨⟨x1, x2⟩, hy⟩ : ∃ x, R[k]? = some x := ⟨_, List.getElem?_eq_getElem hlt⟩
      have ha := own_below HV1.out hb
      obtain ⟨g, c', ea⟩ := own_some ha (by omega)
      obtain ⟨rfl, _, rfl⟩ := (by simpa using ea : A = some ⟨g, 0, none⟩ ∧ True ∧ c = c')
      obtain ⟨g1, g2⟩ := pair_cells ha hy
      have hlg := block_lt_of_cell g1
      dsimp only at hlg
      have HY := Lib.hid hy
      have k0 : (0 : Int) ≤ (k : Int) := Int.natCast_nonneg _
      have k1 : (k : Int) < (R.length : Int) := by omega
      clear ha ea hy hr
      by_cases hx : x1 = x2
      · subst hx
        have t1 : (x1 == x1) = true := by simp
        have HH := Lib.hid (bad_hit HY.out HP.out (by unfold badB; simp))
        go_wp2
        go_quiet (fail)
        go_wp2
        refine bodyPost_ret (v := .tuple #[.agg #[.string ⟨x1.toArray⟩, .string ⟨x1.toArray⟩], .bool true]) (by simp [results, Try.results60, go_sem, two_set0 (Row.drewN HROW.out _), two_set1 (Row.drewN HROW.out _)]) rfl ?_
        exact ⟨by rw [HH.out]; rfl, (((then_ HB1.out (below_drewN hb _)).setCell (p := ⟨w.heap.size, 0, none⟩) (Nat.le_refl _) _).setCell (p := ⟨w.heap.size, 1, none⟩) (Nat.le_refl _) _)⟩
      · have t1 : (x1 == x2) = false := by simpa using hx
        obtain ⟨z, hz⟩ : ∃ z, decide ((x1, x2) ∈ wide.map orderedS) = z := ⟨_, rfl⟩
        have HZ := Lib.hid hz
        have HBD : Hid (badB wide (x1, x2) = !z) := Lib.hid (by rw [badB_ref, hz]; simp [hx])
        clear hx hz
        cases z with
        | true =>
          go_wp2
          go_region_held3 (fun w' => w'.cell? ⟨g, k * 2, none⟩ = some (.string ⟨x1.toArray⟩) ∧ w'.cell? ⟨g, k * 2 + 1, none⟩ = some (.string ⟨x2.toArray⟩)) (go_keep)
            (first | (go_at_call 119; refine (ref_hasPair_as _ _ wide (x1, x2) true HZ.out (HW.out.below (then_ HB1.out hb).drew)).mono ?_; rintro e w6 ⟨rfl, hb6⟩; have HB6 := Lib.hid (show Below wr.heap.size wr w6 from ((Below.refl _ _).drew).trans hb6); have s1 := (HB6.out.cell (p := ⟨g, k * 2, none⟩) hlg).trans g1; have s2 := (HB6.out.cell (p := ⟨g, k * 2 + 1, none⟩) hlg).trans g2; clear hb6))
          go_wp2
          go_roundw
          case rel => exact ⟨k + 1, by omega, by go_num, Lib.hid (bad_snoc HY.out HP.out HBD.out), hb.trans (HB6.out.mono hB), HROW.out.below HB6.out hlr⟩
          case measure => simp [intOf]; omega
        | false =>
          have HH := Lib.hid (bad_hit HY.out HP.out HBD.out)
          go_wp2
          go_region_held3 (fun w' => w'.cell? ⟨g, k * 2, none⟩ = some (.string ⟨x1.toArray⟩) ∧ w'.cell? ⟨g, k * 2 + 1, none⟩ = some (.string ⟨x2.toArray⟩)) (go_keep)
            (first | (go_at_call 119; refine (ref_hasPair_as _ _ wide (x1, x2) false HZ.out (HW.out.below (then_ HB1.out hb).drew)).mono ?_; rintro e w6 ⟨rfl, hb6⟩; have HB6 := Lib.hid (show Below wr.heap.size wr w6 from ((Below.refl _ _).drew).trans hb6); have s1 := (HB6.out.cell (p := ⟨g, k * 2, none⟩) hlg).trans g1; have s2 := (HB6.out.cell (p := ⟨g, k * 2 + 1, none⟩) hlg).trans g2; have hr6 := HROW.out.below HB6.out hlr; have y0 := hr6.cell (i := 0) (v := .string ⟨#[]⟩) rfl; have y1 := hr6.cell (i := 1) (v := .string ⟨#[]⟩) rfl; have yf := hr6.free; clear hb6))
          go_wp2
          refine bodyPost_ret (v := .tuple #[.agg #[.string ⟨x1.toArray⟩, .string ⟨x2.toArray⟩], .bool true]) (by simp [results, Try.results60, go_sem, two_set0 (hr6), two_set1 (hr6)]) rfl ?_
          exact ⟨by rw [HH.out]; rfl, ((then_ HB1.out (hb.trans (HB6.out.mono hB))).setCell (p := ⟨w.heap.size, 0, none⟩) (Nat.le_refl _) _).setCell (p := ⟨w.heap.size, 1, none⟩) (Nat.le_refl _) _⟩
    · obtain rfl : k = R.length := by omega
      rw [List.take_length] at HP
      have HM := Lib.hid (broken_miss HP.out)
      clear hr
      go_wp2
      refine bodyPost_ret (v := .tuple #[.agg #[.string ⟨#[]⟩, .string ⟨#[]⟩], .bool false]) (by simp [results, Try.results60, go_sem, two_set0 (HROW.out), two_set1 (HROW.out)]) rfl ?_
      exact ⟨by rw [HM.out]; rfl, ((then_ HB1.out hb).setCell (p := ⟨w.heap.size, 0, none⟩) (Nat.le_refl _) _).setCell (p := ⟨w.heap.size, 1, none⟩) (Nat.le_refl _) _⟩
end Go.Proofs.Ytieclecpjjfhfaa
