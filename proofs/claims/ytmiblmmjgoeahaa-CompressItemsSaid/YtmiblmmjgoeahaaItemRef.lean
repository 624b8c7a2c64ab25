/- Items of the reference. -/
import Derived.Test.YtmiblmmjgoeahaaItemWalk
namespace Go.Proofs.Ytmiblmmjgoeahaa
open Go.RowKit
theorem infoItemR : (Try.prog.info? 48).map (fun i => (i.zero, i.size, i.bytes)) = some (some (.agg #[.string ⟨#[]⟩, .int .i64 0, .bool false, .bool false]), 4, 32) := by kernel_rfl
theorem ItBox.drewN {w W : World} {tc : TypeId} {c0 c1 c2 c3 c4 c5 c6 c7 d0 d1 : Value} (h : ItBox w W tc c0 c1 c2 c3 c4 c5 c6 c7 d0 d1) (n : Nat) : ItBox w (W.drewN n) tc c0 c1 c2 c3 c4 c5 c6 c7 d0 d1 := ⟨h.fr, h.cd, below_drewN h.below n⟩
set_option maxRecDepth 100000 in
set_option maxHeartbeats 4000000 in
theorem ref_items (w : World) (c0 c1 hv c3 c4 c5 c6 c7 lv nv : Value) (hyps labels : List (List UInt8)) (nums : List Int) (hl : Strs w lv labels) (hh : HypL w hv hyps) (hn : Ints w nv nums)
    (hN : nums.length ≤ 1000000) (hH : hyps.length ≤ 1000000) (hL : labels.length ≤ 1000000) (hsz : ∀ s ∈ labels, s.length ≤ maxLen) :
    Calls Try.prog 24 #[.agg #[c0, c1, hv, c3, c4, c5, c6, c7], .agg #[lv, nv]] w fun e w' => ∃ v, e = .returned (.tuple #[v, .int .i64 (itemsS hyps labels nums).2]) ∧ ItemsAt w' v (itemsS hyps labels nums).1 ∧ Below w.heap.size w w' := by
  have hl0 := hl
  have hh0 := hh
  have hn0 := hn
  obtain ⟨A1, q1, rfl, hc1, hm1, hx1⟩ := hl.open_
  obtain ⟨A2, q2, rfl, hc2, hm2, hx2⟩ := hh
  obtain ⟨A3, q3, rfl, hc3, hm3, hx3⟩ := hn.open_
  clear hx1 hx2 hx3 hl hn
  have hb0 := ItBox.new w 44 c0 c1 (.slice A2 hyps.length q2) c3 c4 c5 c6 c7 (.slice A1 labels.length q1) (.slice A3 nums.length q3)
  by_cases hnm : namesS labels
  · have e1 : decide (namesS labels) = true := decide_eq_true hnm
    have HNM := Lib.hid hnm
    clear hnm
    go_enter Try.func24, Try.ntmps24
    go_wp2_with (go_at_call 89; refine (ref_labels _ _ labels (hl0.below hb0.below) hsz).mono ?_; rintro e w1 ⟨rfl, nd, rfl⟩)
    obtain ⟨W1, hW1⟩ : ∃ W1, W1 = World.drewN ((w.alloc (.cells #[c0, c1, .slice A2 hyps.length q2, c3, c4, c5, c6, c7] 35)).alloc (.cells #[.slice A1 labels.length q1, .slice A3 nums.length q3] 44)) nd := ⟨_, rfl⟩
    rw [← hW1]
    have hb1 : ItBox w W1 44 c0 c1 (.slice A2 hyps.length q2) c3 c4 c5 c6 c7 (.slice A1 labels.length q1) (.slice A3 nums.length q3) := by rw [hW1]; exact hb0.drewN nd
    clear hW1 hb0
    obtain ⟨k0, k1, k2, k3, k4, k5, k6, k7, d0, d1⟩ := hb1.cells
    go_wp2
    go_region
    obtain ⟨W2, hW2⟩ : ∃ W2, W2 = W1.drew := ⟨_, rfl⟩
    rw [← hW2]
    have hb2 : ItBox w W2 44 c0 c1 (.slice A2 hyps.length q2) c3 c4 c5 c6 c7 (.slice A1 labels.length q1) (.slice A3 nums.length q3) := by rw [hW2]; exact ⟨hb1.fr.drew, hb1.cd.drew, hb1.below.drew⟩
    clear hW2 hb1 k0 k1 k2 k3 k4 k5 k6 k7 d0 d1
    go_wp2
    go_loopw [8] (fun i wr => ∃ k : Nat, k ≤ hyps.length ∧ i = .int .i64 k ∧ (∀ s ∈ hyps.take k, ¬ s ∈ labels) ∧ ItBox w wr 44 c0 c1 (.slice A2 hyps.length q2) c3 c4 c5 c6 c7 (.slice A1 labels.length q1) (.slice A3 nums.length q3)) (fun i _ => hyps.length - (intOf i).toNat)
    case atStart => exact ⟨0, Nat.zero_le _, rfl, by simp, hb2⟩
    case round =>
      obtain ⟨k, hk, rfl, hno, hbox⟩ := hrel
      have HNO := Lib.hid hno
      clear hno hb2
      obtain ⟨k0, k1, k2, k3, k4, k5, k6, k7, d0, d1⟩ := hbox.cells
      have hls := hl0.below hbox.below
      by_cases hlt : k < hyps.length
      · obtain ⟨y, hy⟩ : ∃ y, hyps[k]? = some y := ⟨_, List.getElem?_eq_getElem hlt⟩
        obtain ⟨A2', q2', hvv, _, _, hx2⟩ := hh0.below hbox.below
        obtain ⟨rfl, _, rfl⟩ := (by simpa using hvv : A2 = A2' ∧ True ∧ q2 = q2')
        obtain ⟨b2, o2, fl, ta, tn, tc, rfl, s1, s2, s3⟩ := hx2 k y hy
        have HY := Lib.hid hy
        clear hx2 hy hvv
        by_cases hin : y ∈ labels
        · have e2 : decide (y ∈ labels) = true := decide_eq_true hin
          have HS := Lib.hid (itemsS_list (hyps := hyps) (labels := labels) (nums := nums) (Or.inr ⟨y, List.mem_of_getElem? HY.out, hin⟩))
          clear e2
          go_wp2
          go_quiet ((go_at_call 90; exact Calls.quiet_of_same ((has05 _ _ labels y (hls.drewN _)).mono fun _ _ h => ⟨h.1, h.2.symm⟩)))
          go_wp2
          go_ret2
          rw [HS.out]
          exact ⟨_, rfl, Rds.nil_, (hbox.drewN _).below⟩
        · have e2 : decide (y ∈ labels) = false := decide_eq_false hin
          have HI := Lib.hid hin
          clear e2
          go_wp2
          go_quiet ((go_at_call 90; exact Calls.quiet_of_same ((has05 _ _ labels y (hls.drewN _)).mono fun _ _ h => ⟨h.1, h.2.symm⟩)))
          go_wp2
          go_roundw
          case rel => exact ⟨k + 1, by omega, by go_num, all_snoc HY.out HNO.out HI.out, hbox.drewN _⟩
          case measure => simp [intOf]; omega
      · have hno : ¬ (¬ namesS labels ∨ ∃ s ∈ hyps, s ∈ labels) := fun h => h.elim (fun h => h HNM.out) (fun ⟨s, h1, h2⟩ => all_of_take (by omega) HNO.out s h1 h2)
        have hnn := hn0.below hbox.below
        have hby := hbox
        clear hbox HNO
        have HNO := Lib.hid hno
        clear hno
        by_cases hr : rightS none nums
        · have e3 : decide (rightS none nums) = true := decide_eq_true hr
          have HR := Lib.hid hr
          clear hr
          go_wp2_with (go_at_call 91; refine (ref_right _ _ nums hnn).mono ?_; rintro e w3 ⟨rfl, rfl⟩)
          clear k0 k1 k2 k3 k4 k5 k6 k7 d0 d1 hls hnn hlt hk
          have hz3 : w.heap.size + 2 ≤ wr.heap.size := by have := hby.cd.lt; omega
          go_loopw [9, 10, 11] (fun ov sv i wr => ∃ (k : Nat) (out : List ItemD) (saved : List Int), IAt hyps labels nums k out saved ∧ i = .int .i64 k ∧ wr.ownsRow (w.heap.size + 2) 48 4 ov out.length (out.flatMap itemCells) ∧
            wr.ownsRow (w.heap.size + 2) 3 1 sv saved.length (saved.map (Value.int .i64)) ∧ ItBox w wr 44 c0 c1 (.slice A2 hyps.length q2) c3 c4 c5 c6 c7 (.slice A1 labels.length q1) (.slice A3 nums.length q3)) (fun _ _ i _ => nums.length - (intOf i).toNat)
          case atStart =>
            refine ⟨0, [], [], IAt.start _ _ _, rfl, ?_, ?_, (hby.next (new_ (new_ (Below.refl _ _) _) _))⟩
            · exact (World.ownsRow_made _ _ _ (by omega) (by decide) rfl).alloc _
            · have := World.ownsRow_made (base := w.heap.size + 2) (e := 3) (size := 1) (wr.alloc (.cells #[] 48)) #[] 0 (by simp; omega) (by decide) rfl
              simpa using this
          case round =>
            obtain ⟨k, out, saved, hia, rfl, hown, hsv, hbox⟩ := hrel
            have hk := hia.le
            have hol := hia.ol
            have hsl := hia.sl
            have hIA := Lib.hid hia
            clear hia hby hz3
            by_cases hlt : k < nums.length
            · obtain ⟨n, hy⟩ : ∃ y, nums[k]? = some y := ⟨_, List.getElem?_eq_getElem hlt⟩
              have hnb := (rightS_iff nums none).1 HR.out k n hy
              have hn1 := hnb.1
              have hn2 := hnb.2.1
              obtain ⟨A3', q3', hvv, _, _, hx3⟩ := (hn0.below hbox.below).open_
              obtain ⟨rfl, _, rfl⟩ := (by simpa using hvv : A3 = A3' ∧ True ∧ q3 = q3')
              obtain ⟨b3, o3, rfl, hz⟩ := hx3 k n hy
              have g3 := hz k n hy
              have HY := Lib.hid hy
              obtain ⟨k0, k1, k2, k3, k4, k5, k6, k7, d0, d1⟩ := hbox.cells
              clear hx3 hz hy hnb hvv
              obtain ⟨m, hm⟩ : ∃ m, m = out.length := ⟨_, rfl⟩
              rw [← hm] at hown hol
              have HM := Lib.hid hm
              obtain ⟨p, hp⟩ : ∃ p, p = saved.length := ⟨_, rfl⟩
              rw [← hp] at hsv hsl
              have HP := Lib.hid hp
              obtain ⟨Ao, co, rfl, hco⟩ := own_form hown
              obtain ⟨As, cs, rfl, hcs⟩ := own_form hsv
              obtain ⟨i0, hi, hz0, hz1, hz2⟩ := info_parts infoItemR
              have hwz := hbox.cd.lt
              clear hm hp
              by_cases t0 : n = 0
              · subst t0
                obtain ⟨i, x, rfl⟩ := hIA.out.last HR.out HY.out
                have ho2 : wr.ownsRow (w.heap.size + 2) 48 4 (.slice Ao m co) (i ++ [x]).length ((i ++ [x]).flatMap itemCells) := by rw [← HM.out]; exact hown
                obtain ⟨g, cp, cur, hv, hcp, hbg, hg, c3, f3, hst, hgr⟩ := items_last ho2
                obtain ⟨rfl, rfl, rfl⟩ := (by simpa using hv : Ao = some ⟨g, 0, none⟩ ∧ m = i.length + 1 ∧ co = cp)
                have hs2 := hsv.kept hgr (.inr (own_ne hsv hg (by decide)))
                obtain ⟨i0', hi', hz0', hz1', hz2'⟩ := info_parts infoInt'
                clear hown ho2 hv hi hz0 hz1 hz2
                go_wp2_with (at_builtin; refine wpList_append_own _ rfl _ _ 26 rfl (w.heap.size + 2) 3 i0' (.int .i64 0) 1 8 Try.underlying26 hi' hz0' hz1' hz2' rfl (by decide) _ _ _ rfl (hs2.alloc _) ⟨wr.heap.size, 0, none⟩ 1 1 [.int .i64 (i.length : Int)] rfl rfl (cell_one_new' _ _ _ (by simp)) (by simp [Value.oneCell']) (by unfold maxLen; omega) (by omega) (by simp; omega) ?_; intro v' w1 hown' hgrow _)
                go_roundw
                case rel => exact ⟨k + 1, _, _, hIA.out.save HY.out rfl, by go_num, by have := (hst.alloc (.cells #[.int .i64 (i.length : Int)] 3)).kept hgrow (own_apart hst hs2 (by decide)); exact this, own_snoc hown' HP.out rfl, hbox.keep ((((Below.refl _ _).setCell (p := ⟨g, i.length * 4 + 3, none⟩) (by dsimp only; omega) _).alloc (by simp; omega) _).grown hgrow (by simp; omega) (own_block hs2))⟩
                case measure => simp [intOf]; omega
              · have f0 : (n == 0) = false := by simpa using t0
                by_cases t1 : n = -1
                · subst t1
                  clear f0 t0
                  go_wp2_with (at_builtin; refine wpList_append_own _ rfl _ _ 41 rfl (w.heap.size + 2) 48 i0 _ 4 32 Try.underlying41 hi hz0 hz1 hz2 rfl (by decide) _ _ _ rfl (hown.alloc _) ⟨wr.heap.size, 0, none⟩ 1 1 (itemCells ([], -1, true, false)) rfl rfl (cells_news _ _ _ _ rfl) (by simp [itemCells, Value.oneCell']) (by unfold maxLen; omega) (by omega) (by simp; omega) ?_; intro v' w1 hown' hgrow _)
                  go_roundw
                  case rel => exact ⟨k + 1, _, saved, hIA.out.push HY.out (istep_unknown), by go_num, items_snoc hown' HM.out rfl, (by rw [← HP.out]; exact (hsv.alloc _).kept hgrow (own_apart hsv hown (by decide))), hbox.keep (((Below.refl _ _).alloc (by omega) _).grown hgrow (by simp; omega) (own_block hown))⟩
                  case measure => simp [intOf]; omega
                · have f1 : (n == -1) = false := by simpa using t1
                  have hn3 : 1 ≤ n := by omega
                  by_cases t2 : n ≤ hyps.length
                  · have f2 : decide (n ≤ (hyps.length : Int)) = true := by simpa using t2
                    obtain ⟨j, hj⟩ : ∃ j : Nat, n - 1 = (j : Int) := ⟨(n - 1).toNat, by omega⟩
                    obtain ⟨y, hyj⟩ : ∃ y, hyps[j]? = some y := ⟨_, List.getElem?_eq_getElem (by omega)⟩
                    have HS := Lib.hid (istep_hyp (labels := labels) (out := out) (saved := saved) hn3 t2 (show hyps[n.toNat - 1]? = some y by rw [show n.toNat - 1 = j by omega]; exact hyj))
                    obtain ⟨A2', q2', hvv, _, _, hx2⟩ := hh0.below hbox.below
                    obtain ⟨rfl, _, rfl⟩ := (by simpa using hvv : A2 = A2' ∧ True ∧ q2 = q2')
                    obtain ⟨b2, o2, fl, ta, tn, tc, rfl, s1, s2, s3⟩ := hx2 j y hyj
                    have hjl : j < hyps.length := by omega
                    clear hx2 hyj hvv t0 t1 t2
                    go_wp2_with (at_builtin; refine wpList_append_own _ rfl _ _ 41 rfl (w.heap.size + 2) 48 i0 _ 4 32 Try.underlying41 hi hz0 hz1 hz2 rfl (by decide) _ _ _ rfl (hown.alloc _) ⟨wr.heap.size, 0, none⟩ 1 1 (itemCells (y, -1, false, false)) rfl rfl (cells_news _ _ _ _ rfl) (by simp [itemCells, Value.oneCell']) (by unfold maxLen; omega) (by omega) (by simp; omega) ?_; intro v' w1 hown' hgrow _)
                    go_roundw
                    case rel => exact ⟨k + 1, _, saved, hIA.out.push HY.out (HS.out), by go_num, items_snoc hown' HM.out rfl, (by rw [← HP.out]; exact (hsv.alloc _).kept hgrow (own_apart hsv hown (by decide))), hbox.keep (((Below.refl _ _).alloc (by omega) _).grown hgrow (by simp; omega) (own_block hown))⟩
                    case measure => simp [intOf]; omega
                  · have f2 : decide (n ≤ (hyps.length : Int)) = false := by simpa using t2
                    by_cases t3 : n ≤ hyps.length + labels.length
                    · have f3 : decide (n ≤ (hyps.length : Int) + (labels.length : Int)) = true := by simpa using t3
                      obtain ⟨j, hj⟩ : ∃ j : Nat, n - (hyps.length : Int) = (j : Int) + 1 := ⟨(n - hyps.length - 1).toNat, by omega⟩
                      obtain ⟨y, hyj⟩ : ∃ y, labels[j]? = some y := ⟨_, List.getElem?_eq_getElem (by omega)⟩
                      have HS := Lib.hid (istep_label (out := out) (saved := saved) hn3 t2 t3 (show labels[n.toNat - hyps.length - 1]? = some y by rw [show n.toNat - hyps.length - 1 = j by omega]; exact hyj))
                      obtain ⟨A1', q1', hvv, _, _, hx1⟩ := (hl0.below hbox.below).open_
                      obtain ⟨rfl, _, rfl⟩ := (by simpa using hvv : A1 = A1' ∧ True ∧ q1 = q1')
                      obtain ⟨b1, o1, rfl, s1⟩ := hx1 j y hyj
                      have hjl : j < labels.length := by omega
                      clear hx1 hyj hvv t0 t1 t2 t3
                      go_wp2_with (at_builtin; refine wpList_append_own _ rfl _ _ 41 rfl (w.heap.size + 2) 48 i0 _ 4 32 Try.underlying41 hi hz0 hz1 hz2 rfl (by decide) _ _ _ rfl (hown.alloc _) ⟨wr.heap.size, 0, none⟩ 1 1 (itemCells (y, -1, false, false)) rfl rfl (cells_news _ _ _ _ rfl) (by simp [itemCells, Value.oneCell']) (by unfold maxLen; omega) (by omega) (by simp; omega) ?_; intro v' w1 hown' hgrow _)
                      go_roundw
                      case rel => exact ⟨k + 1, _, saved, hIA.out.push HY.out (HS.out), by go_num, items_snoc hown' HM.out rfl, (by rw [← HP.out]; exact (hsv.alloc _).kept hgrow (own_apart hsv hown (by decide))), hbox.keep (((Below.refl _ _).alloc (by omega) _).grown hgrow (by simp; omega) (own_block hown))⟩
                      case measure => simp [intOf]; omega
                    · have f3 : decide (n ≤ (hyps.length : Int) + (labels.length : Int)) = false := by simpa using t3
                      by_cases t4 : n ≤ hyps.length + labels.length + saved.length
                      · have f4 : True := trivial
                        obtain ⟨j, hj⟩ : ∃ j : Nat, n - (hyps.length : Int) - (labels.length : Int) = (j : Int) + 1 := ⟨(n - hyps.length - labels.length - 1).toNat, by omega⟩
                        obtain ⟨y, hyj⟩ : ∃ y, saved[j]? = some y := ⟨_, List.getElem?_eq_getElem (by omega)⟩
                        have HS := Lib.hid (istep_back (out := out) hn3 t2 t3 t4 (show saved[n.toNat - hyps.length - labels.length - 1]? = some y by rw [show n.toNat - hyps.length - labels.length - 1 = j by omega]; exact hyj))
                        obtain ⟨gs, rfl, s1⟩ := own_read1 hsv (show j < p by have := HP.out; omega) (by rw [List.getElem?_map, hyj]; rfl)
                        have hjl : j < p := by have := HP.out; omega
                        have f5 : decide ((j : Int) + 1 ≤ (p : Int)) = true := by simp; omega
                        clear hyj t0 t1 t2 t3 t4
                        go_wp2_with (at_builtin; refine wpList_append_own _ rfl _ _ 41 rfl (w.heap.size + 2) 48 i0 _ 4 32 Try.underlying41 hi hz0 hz1 hz2 rfl (by decide) _ _ _ rfl (hown.alloc _) ⟨wr.heap.size, 0, none⟩ 1 1 (itemCells ([], y, false, false)) rfl rfl (cells_news _ _ _ _ rfl) (by simp [itemCells, Value.oneCell']) (by unfold maxLen; omega) (by omega) (by simp; omega) ?_; intro v' w1 hown' hgrow _)
                        go_roundw
                        case rel => exact ⟨k + 1, _, saved, hIA.out.push HY.out (HS.out), by go_num, items_snoc hown' HM.out rfl, (by rw [← HP.out]; exact (hsv.alloc _).kept hgrow (own_apart hsv hown (by decide))), hbox.keep (((Below.refl _ _).alloc (by omega) _).grown hgrow (by simp; omega) (own_block hown))⟩
                        case measure => simp [intOf]; omega
                      · have f4 : decide (n - (hyps.length : Int) - (labels.length : Int) ≤ (p : Int)) = false := by have := HP.out; simp; omega
                        have HS := Lib.hid (itemsS_none HNO.out HR.out (hIA.out.bad HY.out (istep_none hn3 t2 t3 t4)))
                        clear t0 t1 t2 t3 t4
                        go_wp2
                        go_ret2
                        rw [HS.out]
                        exact ⟨_, rfl, Rds.nil_, hbox.below⟩
            · obtain rfl : k = nums.length := by omega
              have HF := Lib.hid hIA.out.fin
              obtain ⟨k0, k1, k2, k3, k4, k5, k6, k7, d0, d1⟩ := hbox.cells
              obtain ⟨Ao, co, rfl, hco⟩ := own_form hown
              by_cases t5 : 2000 < out.length
              · have HS := Lib.hid (itemsS_steps HNO.out HR.out HF.out t5)
                go_wp2
                go_ret2
                rw [HS.out]
                exact ⟨_, rfl, Rds.nil_, hbox.below⟩
              · have HS := Lib.hid (itemsS_ok HNO.out HR.out HF.out t5)
                go_wp2
                go_ret2
                rw [HS.out]
                exact ⟨_, rfl, Rds.of_own hown, hbox.below⟩
        · have e3 : decide (rightS none nums) = false := decide_eq_false hr
          have HS := Lib.hid (itemsS_code HNO.out hr)
          clear hr
          go_wp2_with (go_at_call 91; refine (ref_right _ _ nums hnn).mono ?_; rintro e w3 ⟨rfl, rfl⟩)
          go_ret2
          rw [HS.out]
          exact ⟨_, rfl, Rds.nil_, hby.below⟩
  · have e1 : decide (namesS labels) = false := decide_eq_false hnm
    have HS := Lib.hid (itemsS_list (hyps := hyps) (nums := nums) (Or.inl hnm))
    clear hnm
    go_enter Try.func24, Try.ntmps24
    go_wp2_with (go_at_call 89; refine (ref_labels _ _ labels (hl0.below hb0.below) hsz).mono ?_; rintro e w1 ⟨rfl, nd, rfl⟩)
    go_ret2
    rw [HS.out]
    exact ⟨_, rfl, Rds.nil_, (hb0.drewN nd).below⟩
end Go.Proofs.Ytmiblmmjgoeahaa
