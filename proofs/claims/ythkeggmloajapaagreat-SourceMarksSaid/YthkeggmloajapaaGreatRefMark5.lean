/- Unmark of the reference. -/
import Derived.Test.YthkeggmloajapaaGreatRefMark3
import Derived.Test.YthkeggmloajapaaGreatRefMark2
import Derived.Test.YthkeggmloajapaaGreatMarkUn
import Derived.Deep.RegionHeld3
import Derived.Deep.DrawnRows
namespace Go.Proofs.YthkeggmloajapaaGreat
open Go.RowKit
attribute [local go_sem ↓] Go.wp_at_zero Go.wp_at_succ
theorem fit_form : ∀ (l : List MarkD) (b : MarkD), fitL b l = true → ∀ m ∈ l, formM m = true
  | [], _, _, m, hm => absurd hm (by simp)
  | x :: l, b, h, m, hm => by
    rw [fitL] at h
    simp only [Bool.and_eq_true] at h
    rcases List.mem_cons.1 hm with rfl | hm
    · exact h.1.1
    · exact fit_form l x h.2 m hm
theorem flat_writeM : ∀ (l : List MarkD), (∀ m ∈ l, formM m = true) → (l.flatMap writeM).length ≤ 4 * (l.flatMap (·.2)).length
  | [], _ => by simp
  | x :: l, h => by
    have h1 := writeM_len x (h x (by simp))
    have h2 := flat_writeM l fun m hm => h m (by simp [hm])
    simp only [List.flatMap_cons, List.length_append]
    omega
theorem dup_take {t : List UInt8} {j : Nat} {b : UInt8} (h : t[j]? = some b) : dupS (t.take (j + 1)) = dupS (t.take j) ++ (if special b then [b, b] else [b]) := by
  rw [take_snoc h]
  simp [dupS]
theorem flat_part (l : List MarkD) (k : Nat) : ((l.take k).flatMap writeM).length ≤ (l.flatMap writeM).length := by
  conv => rhs; rw [← List.take_append_drop k l]
  rw [List.flatMap_append, List.length_append]
  omega
theorem dup_part (t : List UInt8) (j : Nat) : (dupS (t.take j)).length ≤ (dupS t).length := by
  conv => rhs; rw [← List.take_append_drop j t]
  rw [dup_app, List.length_append]
  omega
theorem ret_measure {n i : Nat} (z : Int) (hz : z = ((i + 1 : Nat) : Int)) (h : i < n) : n - (intOf (.int .i64 z)).toNat < n - (intOf (.int .i64 (i : Int))).toNat := by
  subst hz
  simp only [intOf]
  omega
set_option maxRecDepth 100000 in
set_option maxHeartbeats 8000000 in
theorem ref_unmark (w : World) (v : Value) (l : List MarkD) (hv : Rds w 2 v l.length (markC l)) (hs : ∀ m ∈ l, m.2.length ≤ 1000000) (hsum : (l.flatMap (·.2)).length ≤ 100000000) (hlen : l.length ≤ 1000000) :
    Calls Tryz.prog 8 #[v] w (UnPost w l) := by
  obtain ⟨A1, a1, rfl⟩ : ∃ a c, v = .slice a l.length c := by obtain ⟨a, c, h, _⟩ := hv; exact ⟨a, c, h⟩
  have HV1 := Lib.hid hv
  have HS := Lib.hid hs
  have HSUM := Lib.hid hsum
  clear hv hs hsum
  go_enter Tryz.func8, Tryz.ntmps8
  go_wp2
  go_loopw [5] (fun iv wr => ∃ k : Nat, k ≤ l.length ∧ iv = .int .i64 k ∧ Hid (fitL (0, []) (l.take k) = true) ∧ Row wr w.heap.size 26 #[.int .i64 (lastM (0, []) (l.take k)).1, .string ⟨(lastM (0, []) (l.take k)).2.toArray⟩] ∧ Below w.heap.size w wr) (fun iv _ => l.length - (intOf iv).toNat)
  case atStart => exact ⟨0, Nat.zero_le _, rfl, Lib.hid rfl, Row.new _ _ _, new_ (Below.refl _ _) _⟩
  case round =>
    obtain ⟨wo, rfl⟩ : ∃ wo, wo = wr := ⟨_, rfl⟩
    obtain ⟨k, hk, rfl, HF, hrow, hb⟩ := hrel
    have HB := Lib.hid hb
    have HRO := Lib.hid hrow
    by_cases hlt : k < l.length
    · obtain ⟨⟨mk, mt⟩, hx⟩ : ∃ x, l[k]? = some x := ⟨_, List.getElem?_eq_getElem hlt⟩
      obtain ⟨⟨pk, pt⟩, hp⟩ : ∃ p, lastM (0, []) (l.take k) = p := ⟨_, rfl⟩
      rw [hp] at hrow HRO
      obtain ⟨A', c', hvv, _, _, hxx⟩ := marks_open (HV1.out.below hb)
      obtain ⟨b, o, hA, g1, g2⟩ := hxx k _ hx
      obtain ⟨rfl, _, rfl⟩ := (by simpa using hvv : A1 = A' ∧ True ∧ a1 = c')
      subst hA
      dsimp only at g1 g2 hrow
      have r0 := hrow.cell (i := 0) (v := .int .i64 pk) rfl
      have r1 := hrow.cell (i := 1) (v := .string ⟨pt.toArray⟩) rfl
      have f0 := hrow.free 0
      have f1 := hrow.free 1
      have HMS := Lib.hid (HS.out _ (List.mem_of_getElem? hx))
      have HSN := Lib.hid (fitL_snoc (l.take k) (0, []) (mk, mt))
      have HTK := Lib.hid (take_snoc hx)
      have HP := Lib.hid hp
      obtain ⟨q, hq⟩ : ∃ q, (formM (mk, mt) && fitM (pk, pt) (mk, mt)) = q := ⟨_, rfl⟩
      have HQ := Lib.hid hq
      have HFN : Hid (fitL (0, []) (l.take (k + 1)) = q) := Lib.hid (by rw [HTK.out, HSN.out, HF.out, HP.out, HQ.out]; rfl)
      have HLA : Hid (lastM (0, []) (l.take (k + 1)) = (mk, mt)) := Lib.hid (by rw [HTK.out, lastM_snoc])
      clear hxx hx hvv hb hrow hp hq
      go_upto_region 5 with fail
      go_region_held3 (fun w' => w'.cell? ⟨w.heap.size, 0, none⟩ = some (.int .i64 pk) ∧ w'.cell? ⟨w.heap.size, 1, none⟩ = some (.string ⟨pt.toArray⟩) ∧ w'.cell? ⟨b, o + k * 2, none⟩ = some (.int .i64 mk) ∧ w'.cell? ⟨b, o + k * 2 + 1, none⟩ = some (.string ⟨mt.toArray⟩)) (go_keep)
        (first | (go_at_call 24; (refine (ref_formed _ mk pk mt pt HMS.out).mono ?_; rw [HQ.out]; rintro e w2 ⟨rfl, hb2⟩; have HB2 := Lib.hid ((Below.refl wo.heap.size wo).drew.trans hb2); clear hb2; have p0 := cellM r0 HB2.out; have p1 := cellM r1 HB2.out; have p2 := cellM g1 HB2.out; have p3 := cellM g2 HB2.out)) | fail)
      have HRW := Lib.hid (HRO.out.below HB2.out HRO.out.lt)
      have n0 := HRW.out.free 0
      have n1 := HRW.out.free 1
      have HB3 := Lib.hid (then_ HB.out HB2.out)
      clear r0 r1 f0 f1 g1 g2
      cases q with
      | false =>
        have hU : Hid (unmarkS l = ([], 2)) := Lib.hid (by unfold unmarkS; rw [if_pos (fit_not (k := k + 1) HFN.out)])
        go_wp2
        go_ret2
        exact ⟨by rw [hU.out]; rfl, HB3.out⟩
      | true =>
        go_wp2
        go_roundw
        case rel => exact ⟨k + 1, by omega, by go_num, Lib.hid HFN.out, by rw [HLA.out]; exact (HRW.out.set 0 (.int .i64 mk)).set 1 (.string ⟨mt.toArray⟩), HB3.out.trans ((below_set _ (Nat.le_refl _)).trans (below_set _ (Nat.le_refl _)))⟩
        case measure => exact ret_measure _ (by go_num) hlt
    · obtain rfl : k = l.length := by omega
      rw [List.take_length] at HF
      have HALL := Lib.hid (fit_form l _ HF.out)
      have HTOT : Hid ((l.flatMap writeM).length ≤ 400000000) := Lib.hid (by have h1 := flat_writeM l HALL.out; have h2 := HSUM.out; omega)
      clear hrow hb hk hlt HRO
      go_wp2
      go_loopw [6, 7] (fun sv iv wr => ∃ k : Nat, k ≤ l.length ∧ iv = .int .i64 k ∧ sv = .string ⟨((l.take k).flatMap writeM).toArray⟩ ∧ Below w.heap.size w wr) (fun _ iv _ => l.length - (intOf iv).toNat)
      case atStart => exact ⟨0, Nat.zero_le _, rfl, rfl, HB.out⟩
      case round =>
        obtain ⟨wq, rfl⟩ : ∃ wq, wq = wr := ⟨_, rfl⟩
        obtain ⟨k, hk, rfl, rfl, hb⟩ := hrel
        have HBQ := Lib.hid hb
        by_cases hlt : k < l.length
        · obtain ⟨⟨mk, mt⟩, hx⟩ : ∃ x, l[k]? = some x := ⟨_, List.getElem?_eq_getElem hlt⟩
          obtain ⟨A', c', hvv, _, _, hxx⟩ := marks_open (HV1.out.below hb)
          obtain ⟨b, o, hA, g1, g2⟩ := hxx k _ hx
          obtain ⟨rfl, _, rfl⟩ := (by simpa using hvv : A1 = A' ∧ True ∧ a1 = c')
          subst hA
          dsimp only at g1 g2
          obtain ⟨X, hX⟩ : ∃ X, (l.take k).flatMap writeM = X := ⟨_, rfl⟩
          have HX := Lib.hid hX
          have HNX : Hid ((l.take (k + 1)).flatMap writeM = X ++ writeM (mk, mt)) := Lib.hid (by rw [take_snoc hx, List.flatMap_append, hX]; simp)
          have hXl : X.length + (writeM (mk, mt)).length ≤ 400000000 := by
            have h1 := flat_part l (k + 1)
            rw [HNX.out, List.length_append] at h1
            have := HTOT.out
            omega
          have hfm := HALL.out _ (List.mem_of_getElem? hx)
          have hmt := HS.out _ (List.mem_of_getElem? hx)
          dsimp only at hmt
          have hkind : mk = 1 ∨ mk = 2 ∨ mk = 3 ∨ mk = 4 := by
            unfold formM at hfm
            dsimp only at hfm
            by_cases h1 : mk = 1
            · exact .inl h1
            · by_cases h2 : mk = 2
              · exact .inr (.inl h2)
              · by_cases h3 : mk = 3
                · exact .inr (.inr (.inl h3))
                · by_cases h4 : mk = 4
                  · exact .inr (.inr (.inr h4))
                  · simp [h1, h2, h3, h4] at hfm
          rw [hX]
          have HXL := Lib.hid hXl
          have HMT := Lib.hid hmt
          clear hxx hx hvv hb hX hfm hXl hmt
          rcases hkind with rfl | rfl | rfl | rfl
          · go_wp2
            go_loop [6, 9] (fun sv jv => ∃ j : Nat, j ≤ mt.length ∧ jv = .int .i64 j ∧ sv = .string ⟨(X ++ dupS (mt.take j)).toArray⟩) (fun _ jv => mt.length - (intOf jv).toNat)
            case atStart => exact ⟨0, Nat.zero_le _, rfl, by simp [dupS]⟩
            case round =>
              obtain ⟨j, hj, rfl, rfl⟩ := hrel
              by_cases hjl : j < mt.length
              · obtain ⟨c, hcx⟩ : ∃ c, mt[j]? = some c := ⟨_, List.getElem?_eq_getElem hjl⟩
                have hcx2 : mt[j] = c := by rw [List.getElem?_eq_getElem hjl] at hcx; exact Option.some.inj hcx
                obtain ⟨z, hze, hzl⟩ : ∃ z : Nat, (ByteArray.mk mt.toArray)[j].toNat = z ∧ z = c.toNat := ⟨_, rfl, by rw [← hcx2]; rfl⟩
                obtain ⟨D, hD⟩ : ∃ D, X ++ dupS (mt.take j) = D := ⟨_, rfl⟩
                have HDN : Hid (X ++ dupS (mt.take (j + 1)) = D ++ (if special c then [c, c] else [c])) := Lib.hid (by rw [dup_take hcx, ← List.append_assoc, hD])
                have hDl : D.length ≤ 400000000 := by
                  have h1 := HXL.out
                  have h2 := dup_part mt j
                  rw [← hD, List.length_append]
                  simp only [writeM, if_true] at h1
                  omega
                rw [hD]
                have hj1 : ((j : Int) + 1).toNat = j + 1 := by omega
                have hmt1 := HMT.out
                have hsl1 := fun wx => run_slice_string (P := Tryz.prog) wx 9 ⟨mt.toArray⟩ .i64 .i64 (j : Int) ((j : Int) + 1) Tryz.underlying9 (by omega) (by omega) (by simp [ByteArray.size]; omega)
                simp only [Int.toNat_natCast, hj1, cut_text] at hsl1
                rw [List.drop_eq_getElem_cons hjl, hcx2, show j + 1 - j = 1 by omega, show (c :: mt.drop (j + 1)).take 1 = [c] from rfl] at hsl1
                obtain ⟨D1, hD1⟩ : ∃ D1, D ++ [c] = D1 := ⟨_, rfl⟩
                have ca1 := catM hD1 (by simp; omega)
                have HD1 := Lib.hid hD1
                have HZ := Lib.hid hzl
                have hD1l : D1.length ≤ 400000001 := by rw [← hD1, List.length_append]; simp; omega
                have hw : (((z : Int) == 96) = true ∨ (((z : Int) == 96) = false ∧ ((z : Int) == 126) = true) ∨ (((z : Int) == 96) = false ∧ ((z : Int) == 126) = false ∧ ((z : Int) == 91) = true)) ∨ ((z : Int) == 96) = false ∧ ((z : Int) == 126) = false ∧ ((z : Int) == 91) = false := by
                  cases ((z : Int) == 96) <;> cases ((z : Int) == 126) <;> cases ((z : Int) == 91) <;> simp
                rcases hw with hw | ⟨x1, x2, x3⟩
                · have HSP : Hid (special c = true) := Lib.hid (by
                    have hb : c = 96 ∨ c = 126 ∨ c = 91 := by
                      simp only [beq_iff_eq] at hw
                      rcases hw with h | ⟨-, h⟩ | ⟨-, -, h⟩
                      · exact .inl (UInt8.toNat_inj.1 (by rw [← HZ.out]; exact Int.ofNat.inj h))
                      · exact .inr (.inl (UInt8.toNat_inj.1 (by rw [← HZ.out]; exact Int.ofNat.inj h)))
                      · exact .inr (.inr (UInt8.toNat_inj.1 (by rw [← HZ.out]; exact Int.ofNat.inj h)))
                    rcases hb with rfl | rfl | rfl <;> decide)
                  obtain ⟨D2, hD2⟩ : ∃ D2, D1 ++ [c] = D2 := ⟨_, rfl⟩
                  have ca2 := catM hD2 (by simp; omega)
                  have HD2 : Hid (X ++ dupS (mt.take (j + 1)) = D2) := Lib.hid (by rw [HDN.out, HSP.out, ← hD2, ← hD1]; simp)
                  clear hcx hcx2 hD hDl hD1 hzl hD1l hD2
                  rcases hw with x1 | ⟨x1, x2⟩ | ⟨x1, x2, x3⟩
                  all_goals
                    go_wp2
                    go_round
                    case rel => exact ⟨j + 1, by omega, by go_num, by rw [HD2.out]⟩
                    case measure => exact ret_measure _ (by go_num) hjl
                · have HSP : Hid (special c = false) := Lib.hid (by
                    cases h : special c with
                    | false => rfl
                    | true =>
                      exfalso
                      unfold special at h
                      simp at h
                      rcases h with rfl | rfl | rfl <;> rw [HZ.out] at x1 x2 x3 <;> simp at x1 x2 x3)
                  have HD2 : Hid (X ++ dupS (mt.take (j + 1)) = D1) := Lib.hid (by rw [HDN.out, HSP.out, ← hD1]; simp)
                  clear hcx hcx2 hD hDl hD1 hzl hD1l
                  go_wp2
                  go_round
                  case rel => exact ⟨j + 1, by omega, by go_num, by rw [HD2.out]⟩
                  case measure => exact ret_measure _ (by go_num) hjl
              · obtain rfl : j = mt.length := by omega
                have HFX : Hid (X ++ dupS (mt.take mt.length) = (l.take (k + 1)).flatMap writeM) := Lib.hid (by rw [HNX.out, List.take_length]; rfl)
                go_wp2
                go_roundw
                case rel => exact ⟨k + 1, by omega, by go_num, by rw [HFX.out], HBQ.out⟩
                case measure => exact ret_measure _ (by go_num) hlt
          · have hx2 := HXL.out
            have hw2 : writeM (2, mt) = 96 :: (mt ++ [96]) := rfl
            rw [hw2] at hx2 HNX
            simp only [List.length_cons, List.length_append, List.length_nil] at hx2
            have ca1 := catM (a := [96]) (b := mt) (c := 96 :: mt) rfl (by simp; omega)
            have ca2 := catM (a := 96 :: mt) (b := [96]) (c := 96 :: (mt ++ [96])) rfl (by simp; omega)
            have ca3 := catM (a := X) (b := 96 :: (mt ++ [96])) rfl (by simp; omega)
            clear hx2 hw2
            go_wp2
            go_roundw
            case rel => exact ⟨k + 1, by omega, by go_num, by rw [HNX.out], HBQ.out⟩
            case measure => exact ret_measure _ (by go_num) hlt
          · have hx2 := HXL.out
            have hw2 : writeM (3, mt) = 126 :: 32 :: mt := rfl
            rw [hw2] at hx2 HNX
            simp only [List.length_cons] at hx2
            have ca1 := catM (a := [126, 32]) (b := mt) (c := 126 :: 32 :: mt) rfl (by simp; omega)
            have ca3 := catM (a := X) (b := 126 :: 32 :: mt) rfl (by simp; omega)
            clear hx2 hw2
            go_wp2
            go_roundw
            case rel => exact ⟨k + 1, by omega, by go_num, by rw [HNX.out], HBQ.out⟩
            case measure => exact ret_measure _ (by go_num) hlt
          · have hx2 := HXL.out
            have hw2 : writeM (4, mt) = 91 :: (mt ++ [93]) := rfl
            rw [hw2] at hx2 HNX
            simp only [List.length_cons, List.length_append, List.length_nil] at hx2
            have ca1 := catM (a := [91]) (b := mt) (c := 91 :: mt) rfl (by simp; omega)
            have ca2 := catM (a := 91 :: mt) (b := [93]) (c := 91 :: (mt ++ [93])) rfl (by simp; omega)
            have ca3 := catM (a := X) (b := 91 :: (mt ++ [93])) rfl (by simp; omega)
            clear hx2 hw2
            go_wp2
            go_roundw
            case rel => exact ⟨k + 1, by omega, by go_num, by rw [HNX.out], HBQ.out⟩
            case measure => exact ret_measure _ (by go_num) hlt
        · obtain rfl : k = l.length := by omega
          rw [List.take_length]
          obtain ⟨Y, hY⟩ : ∃ Y, l.flatMap writeM = Y := ⟨_, rfl⟩
          have htt := HTOT.out
          rw [hY] at htt ⊢
          by_cases h4 : 40000 < Y.length
          · have hU : Hid (unmarkS l = ([], 15)) := Lib.hid (by unfold unmarkS; rw [if_neg (by rw [HF.out]; simp), hY, if_pos h4])
            have h4' : decide ((40000 : Int) < (Y.length : Int)) = true := decide_eq_true (by omega)
            have h5' : decide (40000 < Y.length) = true := decide_eq_true h4
            clear hb hY htt h4
            go_wp2
            go_ret2
            exact ⟨by rw [hU.out]; rfl, HBQ.out⟩
          · have hU : Hid (unmarkS l = (Y, 0)) := Lib.hid (by unfold unmarkS; rw [if_neg (by rw [HF.out]; simp), hY, if_neg h4])
            have h4' : decide ((40000 : Int) < (Y.length : Int)) = false := decide_eq_false (by omega)
            have h5' : decide (40000 < Y.length) = false := decide_eq_false h4
            clear hb hY htt h4
            go_wp2
            go_ret2
            exact ⟨by rw [hU.out]; rfl, HBQ.out⟩
end Go.Proofs.YthkeggmloajapaaGreat
