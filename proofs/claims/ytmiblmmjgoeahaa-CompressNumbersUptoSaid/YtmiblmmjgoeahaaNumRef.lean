/- Numbers of the reference: the list, the place and the code of numbersS. -/
import Derived.Test.YtmiblmmjgoeahaaBase
import Derived.Test.YtmiblmmjgoeahaaNumPlain
namespace Go.Proofs.Ytmiblmmjgoeahaa
open Go.RowKit
theorem infoInt : (Try.prog.info? 3).map (fun i => (i.zero, i.size, i.bytes)) = some (some (.int .i64 0), 1, 8) := by kernel_rfl
set_option maxRecDepth 100000 in
set_option maxHeartbeats 4000000 in
theorem ref_numbers (l : List UInt8) (w : World) :
    Calls Try.prog 21 #[.string ⟨l.toArray⟩] w fun e w' => ∃ v, e = .returned (.tuple #[v, .int .i64 (numbersS l).2.1, .int .i64 (numbersS l).2.2]) ∧ Ints w' v (numbersS l).1 ∧ Below w.heap.size w w' := by
  by_cases hbig : 40000 < l.length
  · go_enter Try.func21, Try.ntmps21
    go_wp2
    go_ret3
    rw [numbersS_big hbig]
    exact ⟨_, rfl, Rds.nil_, Below.refl _ _⟩
  · go_enter Try.func21, Try.ntmps21
    go_wp2
    go_loopw [5, 6, 7] (fun v r i wr => ∃ (k r' : Nat) (f : Bool) (out : List Int), NAt l k r' f out ∧ i = .int .i64 k ∧ r = .int .i64 r' ∧
      wr.ownsRow w.heap.size 3 1 v out.length (out.map (Value.int .i64)) ∧ Below w.heap.size w wr) (fun _ _ i _ => l.length - (intOf i).toNat)
    case atStart => exact ⟨0, 0, false, [], NAt.start l, rfl, rfl, World.ownsRow_made _ _ _ (Nat.le_refl _) (by decide) rfl, (Below.refl _ _).alloc (Nat.le_refl _) _⟩
    case round =>
      obtain ⟨k, r, f, out, hN, rfl, rfl, hown, hb⟩ := hrel
      have hk := hN.le
      have hr := hN.small
      have hol := hN.len
      obtain ⟨m, hm⟩ : ∃ m, m = out.length := ⟨_, rfl⟩
      rw [← hm] at hown hol
      have HM := Lib.hid hm
      clear hm
      obtain ⟨A, cp, rfl, hcp⟩ := own_form hown
      obtain ⟨i0, hi, hz0, hz1, hz2⟩ := info_parts infoInt
      have hbz := hb.size
      by_cases hlt : k < l.length
      · obtain ⟨c, hce, hcl⟩ : ∃ c : Nat, (ByteArray.mk l.toArray)[k].toNat = c ∧ c = l[k].toNat := ⟨_, rfl, rfl⟩
        have HC := Lib.hid hcl
        clear hcl
        have hc256 : c < 256 := by rw [HC.out]; exact l[k].toNat_lt
        by_cases c1 : 65 ≤ c ∧ c ≤ 84
        · obtain ⟨c1, c2⟩ := c1
          by_cases c3 : 20 * r + (c - 65) + 1 ≤ 1000000
          · have HS := Lib.hid (nstep_num (f := f) (HC.out ▸ c1) (HC.out ▸ c2) (HC.out ▸ c3))
            go_wp2_with (at_builtin; refine wpList_append_own _ rfl _ _ 26 rfl w.heap.size 3 i0 (.int .i64 0) 1 8 Try.underlying26 hi hz0 hz1 hz2 rfl (by decide) _ _ _ rfl (hown.alloc _) ⟨wr.heap.size, 0, none⟩ 1 1 [.int .i64 (20 * (r : Int) + ((c : Int) - 65) + 1)] rfl rfl (cell_one_new _ _ _) (by simp [Value.oneCell']) (by unfold maxLen; omega) (by omega) (by simp; omega) ?_; intro v' w1 hown' hgrow _)
            go_roundw
            case rel => exact ⟨k + 1, 0, true, _, hN.num hlt HS.out rfl (by simp; omega), by go_num, rfl, own_snoc hown' HM.out (congrArg _ (by have := HC.out; omega)), (hb.alloc hbz _).grown hgrow (by simp; omega) (own_block hown)⟩
            case measure => simp [intOf]; omega
          · have HS := Lib.hid (hN.bad hlt (nstep_num_bad (f := f) (HC.out ▸ c1) (HC.out ▸ c2) (HC.out ▸ c3)))
            go_wp2
            go_ret3
            rw [numbersS_bad hbig HS.out]
            exact ⟨_, rfl, Rds.nil_, hb⟩
        · by_cases c2 : 85 ≤ c ∧ c ≤ 89
          · obtain ⟨c2, c3⟩ := c2
            by_cases c4 : 5 * r + (c - 85) + 1 ≤ 1000000
            · have HS := Lib.hid (nstep_part (f := f) (HC.out ▸ c2) (HC.out ▸ c3) (HC.out ▸ c4))
              clear c1
              go_wp2
              go_roundw
              case rel => exact ⟨k + 1, _, false, out, hN.part hlt HS.out (by omega) (HC.out ▸ c4), by go_num, congrArg _ (by have := HC.out; omega), by rw [← HM.out]; exact hown, hb⟩
              case measure => simp [intOf]; omega
            · have HS := Lib.hid (hN.bad hlt (nstep_part_bad (f := f) (HC.out ▸ c2) (HC.out ▸ c3) (HC.out ▸ c4)))
              clear c1
              go_wp2
              go_ret3
              rw [numbersS_bad hbig HS.out]
              exact ⟨_, rfl, Rds.nil_, hb⟩
          · have c12 : c < 65 ∨ 89 < c := by omega
            clear c1 c2
            by_cases c3 : c = 90
            · subst c3
              cases f with
              | true =>
                have HS := Lib.hid (nstep_save (r := r) HC.out.symm)
                obtain ⟨rfl, i, v, rfl, hv⟩ := hN.yes rfl
                obtain ⟨n, rfl⟩ : ∃ n, m = n + 1 := ⟨i.length, by have := HM.out; simpa using this⟩
                obtain ⟨g, cq, hvv, hcq, hcell⟩ := own_last (ys := i.map (Value.int .i64)) (u := .int .i64 v) (by simpa using hown)
                obtain ⟨rfl, _, rfl⟩ := (by simpa using hvv : A = some ⟨g, 0, none⟩ ∧ True ∧ cp = cq)
                go_wp2_with (at_builtin; refine wpList_append_own _ rfl _ _ 26 rfl w.heap.size 3 i0 (.int .i64 0) 1 8 Try.underlying26 hi hz0 hz1 hz2 rfl (by decide) _ _ _ rfl (hown.alloc _) ⟨wr.heap.size, 0, none⟩ 1 1 [.int .i64 0] rfl rfl (cell_one_new _ _ _) (by simp [Value.oneCell']) (by unfold maxLen; omega) (by omega) (by simp; omega) ?_; intro v' w1 hown' hgrow _)
                go_roundw
                case rel => exact ⟨k + 1, 0, false, _, hN.num hlt HS.out rfl (by simp), by go_num, rfl, own_snoc hown' HM.out rfl, (hb.alloc hbz _).grown hgrow (by simp; omega) (own_block hown)⟩
                case measure => simp [intOf]; omega
              | false =>
                have HS := Lib.hid (hN.bad hlt (nstep_save_bad HC.out.symm))
                have hno := hN.no rfl
                by_cases c5 : r = 0
                · subst c5
                  rcases hno rfl with rfl | ⟨i, v, rfl, hv⟩
                  · obtain rfl : m = 0 := HM.out
                    go_wp2
                    go_ret3
                    rw [numbersS_bad hbig HS.out]
                    exact ⟨_, rfl, Rds.nil_, hb⟩
                  · obtain ⟨n, rfl⟩ : ∃ n, m = n + 1 := ⟨i.length, by have := HM.out; simpa using this⟩
                    obtain ⟨g, cq, hvv, hcq, hcell⟩ := own_last (ys := i.map (Value.int .i64)) (u := .int .i64 v) (by simpa using hown)
                    obtain ⟨rfl, _, rfl⟩ := (by simpa using hvv : A = some ⟨g, 0, none⟩ ∧ True ∧ cp = cq)
                    go_wp2
                    go_ret3
                    rw [numbersS_bad hbig HS.out]
                    exact ⟨_, rfl, Rds.nil_, hb⟩
                · clear hno
                  have c6 : ((r : Int) == 0) = false := by simp; omega
                  go_wp2
                  go_ret3
                  rw [numbersS_bad hbig HS.out]
                  exact ⟨_, rfl, Rds.nil_, hb⟩
            · have d3 : ((c : Int) == 90) = false := by simp; omega
              by_cases c4 : c = 63
              · subst c4
                by_cases c5 : r = 0
                · subst c5
                  have HS := Lib.hid (nstep_unknown (f := f) HC.out.symm)
                  go_wp2_with (at_builtin; refine wpList_append_own _ rfl _ _ 26 rfl w.heap.size 3 i0 (.int .i64 0) 1 8 Try.underlying26 hi hz0 hz1 hz2 rfl (by decide) _ _ _ rfl (hown.alloc _) ⟨wr.heap.size, 0, none⟩ 1 1 [.int .i64 (-1)] rfl rfl (cell_one_new _ _ _) (by simp [Value.oneCell']) (by unfold maxLen; omega) (by omega) (by simp; omega) ?_; intro v' w1 hown' hgrow _)
                  go_roundw
                  case rel => exact ⟨k + 1, 0, false, _, hN.num hlt HS.out rfl (by simp), by go_num, rfl, own_snoc hown' HM.out rfl, (hb.alloc hbz _).grown hgrow (by simp; omega) (own_block hown)⟩
                  case measure => simp [intOf]; omega
                · have HS := Lib.hid (hN.bad hlt (nstep_unknown_bad (f := f) HC.out.symm c5))
                  have c6 : ((r : Int) == 0) = false := by simp; omega
                  go_wp2
                  go_ret3
                  rw [numbersS_bad hbig HS.out]
                  exact ⟨_, rfl, Rds.nil_, hb⟩
              · have d4 : ((c : Int) == 63) = false := by simp; omega
                have HS := Lib.hid (hN.bad hlt (nstep_other (r := r) (f := f) (b := l[k]) (by rw [← HC.out]; omega) (by rw [← HC.out]; exact c4)))
                rcases (show c < 65 ∨ 90 < c by omega) with c7 | c7
                · go_wp2
                  go_ret3
                  rw [numbersS_bad hbig HS.out]
                  exact ⟨_, rfl, Rds.nil_, hb⟩
                · go_wp2
                  go_ret3
                  rw [numbersS_bad hbig HS.out]
                  exact ⟨_, rfl, Rds.nil_, hb⟩
      · have hkk : k = l.length := by omega
        have HF := Lib.hid (hkk ▸ hN).fin
        clear hkk
        by_cases hr0 : r = 0
        · subst hr0
          go_wp2
          go_ret3
          have h2 := HF.out
          rw [numbersS_ok hbig (by rw [h2]; rfl), h2]
          exact ⟨_, rfl, by show Rds _ 1 _ out.length _; rw [← HM.out]; exact Rds.of_own hown, hb⟩
        · go_wp2
          go_ret3
          have h2 := HF.out
          rw [numbersS_bad hbig (k := l.length) (by rw [h2, if_neg hr0])]
          exact ⟨_, rfl, Rds.nil_, hb⟩
end Go.Proofs.Ytmiblmmjgoeahaa
