/- Write of the program. -/
import Derived.Test.YtmiblmmjgoeahaaWritePlain
import Derived.Test.YtmiblmmjgoeahaaLetWalk
import Derived.Test.YtmiblmmjgoeahaaNames
import Derived.Test.YtmiblmmjgoeahaaRight
import Derived.Test.YtmiblmmjgoeahaaReadRef
import Derived.Test.YtmiblmmjgoeahaaBld
import Derived.Deep.AppendLies
import Derived.Deep.RegionLaw
namespace Go.Proofs.Ytmiblmmjgoeahaa
open Go.RowKit
/-- the words that Write has made, of which the rest of the letters is still to come -/
def WrAt (w : World) (base : Nat) (K : Nat) (labels : List (List UInt8)) (s : List UInt8) (v : Value) (rest : List UInt8) : Prop :=
  ∃ acc : List (List UInt8), w.ownsRow base 9 1 v ([40] :: labels ++ [[41]] ++ acc).length (([40] :: labels ++ [[41]] ++ acc).map fun s : List UInt8 => Value.string ⟨s.toArray⟩) ∧ acc ++ chunks K rest = chunks K s ∧ acc.length + rest.length ≤ s.length
theorem own_drew {w : World} {base : Nat} {e : TypeId} {size n : Nat} {v : Value} {xs : List Value} (h : w.ownsRow base e size v n xs) : w.drew.ownsRow base e size v n xs := h
theorem wr_snoc {w : World} {base K : Nat} {labels : List (List UInt8)} {s rest : List UInt8} {v : Value} {n M : Nat} {X : List Value} {acc : List (List UInt8)} (h : w.ownsRow base 9 1 v (M + 1) (X ++ [.string ((ByteArray.mk rest.toArray).extract 0 n)]))
    (hM : M = ([40] :: labels ++ [[41]] ++ acc).length) (hX : X = (([40] :: labels ++ [[41]] ++ acc).map fun s : List UInt8 => Value.string ⟨s.toArray⟩)) (hn : n = min K rest.length) (hK : 1 ≤ K) (hr : 0 < rest.length) (hc : acc ++ chunks K rest = chunks K s) (hl : acc.length + rest.length ≤ s.length) :
    WrAt w base K labels s v (rest.drop n) := by
  have h1 : rest.take n = rest.take K := by rw [hn, List.take_eq_take_iff]; omega
  have h2 : rest.drop n = rest.drop K := by
    by_cases h : K ≤ rest.length
    · rw [hn, Nat.min_eq_left h]
    · rw [hn, Nat.min_eq_right (by omega), List.drop_length, List.drop_eq_nil_of_le (by omega)]
  refine ⟨acc ++ [rest.take K], ?_, ?_, by simp; omega⟩
  · rw [bytes_cut, List.drop_zero, h1] at h
    subst hM hX
    have e1 : ([40] :: labels ++ [[41]] ++ (acc ++ [rest.take K])).length = ([40] :: labels ++ [[41]] ++ acc).length + 1 := by simp; omega
    rw [e1, ← List.append_assoc, List.map_append]
    exact h
  · rw [h2, ← hc, chunks_cons (s := rest) (by omega) (List.length_pos_iff.1 hr), List.append_assoc]
    rfl
set_option maxRecDepth 100000 in
set_option maxHeartbeats 4000000 in
theorem write_any (w : World) (lv nv : Value) (labels : List (List UInt8)) (nums : List Int) (width : Int) (hl : Strs w lv labels) (hn : Ints w nv nums) (hN : nums.length ≤ 1000000) (hL : labels.length ≤ 1000000) :
    Calls Try.prog 43 #[.agg #[lv, nv], .int .i64 width] w fun e w' => ∃ v, e = .returned (.tuple #[v, .int .i64 (writeS labels nums width).2]) ∧ Strs w' v (writeS labels nums width).1 ∧ Below w.heap.size w w' := by
  have hl0 := hl
  have hn0 := hn
  obtain ⟨A1, q1, rfl, hc1, hm1, hx1⟩ := hl.open_
  obtain ⟨A3, q3, rfl, hc3, hm3, hx3⟩ := hn.open_
  clear hx1 hx3 hl hn
  by_cases hnm : namesS labels
  · have e1 : decide (namesS labels) = true := decide_eq_true hnm
    by_cases hr : rightS none nums
    · have e3 : decide (rightS none nums) = true := decide_eq_true hr
      have HNM := Lib.hid hnm
      have HR := Lib.hid hr
      clear hnm hr
      go_enter Try.func43, Try.ntmps43
      go_wp2_with (first | (go_at_call 86; refine (names_any _ _ labels (hl0.alloc _)).mono ?_; rintro e w2 ⟨rfl, hb2⟩; have hr2 := (Row.new w 37 #[.slice A1 labels.length q1, .slice A3 nums.length q3]).below hb2 (by simp); have y0 := hr2.cell (i := 0) (v := .slice A1 labels.length q1) rfl; have y1 := hr2.cell (i := 1) (v := .slice A3 nums.length q3) rfl; have HB2 := Lib.hid hb2; have hz2 := hr2.lt) | (go_at_call 88; refine (right_any _ _ nums ((hn0.alloc _).below HB2.out)).mono ?_; rintro e w3 ⟨rfl, rfl⟩))
      clear y0 y1
      have hbb := HB2.out
      go_loopw [25] (fun i wr => ∃ (k : Nat) (l : List UInt8), k ≤ nums.length ∧ i = .int .i64 k ∧ l = letNs (nums.take k) ∧ l.length ≤ 40000 ∧ Bld wr w2.heap.size w2.heap.size l ∧ Below w2.heap.size w2 wr) (fun i _ => nums.length - (intOf i).toNat)
      case atStart => exact ⟨0, [], Nat.zero_le _, rfl, by simp [letNs], by simp, Bld.new _ (Nat.le_refl _), (Below.refl _ _).alloc (Nat.le_refl _) _⟩
      case round =>
        obtain ⟨k, l, hk, rfl, hl, hll, hbd, hbw⟩ := hrel
        have HL := Lib.hid hl
        have hrw := hr2.below hbw hr2.lt
        have hwz := hbw.size
        clear hl
        by_cases hlt : k < nums.length
        · obtain ⟨n, hy⟩ : ∃ y, nums[k]? = some y := ⟨_, List.getElem?_eq_getElem hlt⟩
          have hnb := (rightS_iff nums none).1 HR.out k n hy
          have hn1 := hnb.1
          have hn2 := hnb.2.1
          obtain ⟨A3', q3', hvv, _, _, hx3⟩ := (((hn0.alloc _).below hbb).below hbw).open_
          obtain ⟨rfl, _, rfl⟩ := (by simpa using hvv : A3 = A3' ∧ True ∧ q3 = q3')
          obtain ⟨b3, o3, rfl, hz⟩ := hx3 k n hy
          have g3 := hz k n hy
          have hle := letN_len hn2
          have HS : Hid (l ++ letN n = letNs (nums.take (k + 1))) := Lib.hid (by rw [letNs_snoc hy, HL.out])
          have HM : Hid ((l ++ letN n).length ≤ (letNs nums).length) := Lib.hid (by rw [HS.out]; exact letNs_take_le _ _)
          clear hx3 hz hy hnb hvv
          obtain ⟨N, hN'⟩ : ∃ N, (l ++ letN n).length = N := ⟨_, rfl⟩
          have HN := Lib.hid hN'
          have hNl : N ≤ 40000 + 1000000 := by rw [← hN', List.length_append]; omega
          clear hN'
          by_cases t9 : 40000 < N
          · have e9 : decide ((40000 : Int) < (N : Int)) = true := by simp; omega
            have HE := Lib.hid (writeS_size (width := width) HNM.out HR.out (by have := HM.out; have := HN.out; omega))
            clear t9
            by_cases t0 : n = 0
            · subst t0
              go_wp2_with (first | (go_at_call 98; refine (bld_byte _ w2.heap.size _ l 90 _ rfl hbd (by omega) hwz).mono ?_; rintro e w4 ⟨rfl, hbd4, hb4⟩) | (go_at_call 99; refine (bld_len _ _ _ _ N HN.out hbd4).mono ?_; rintro e w5 ⟨rfl, rfl⟩))
              go_ret2
              rw [HE.out]
              exact ⟨_, rfl, Rds.nil_, then_ (new_ (Below.refl _ _) _) (HB2.out.trans ((hbw.trans hb4).mono (by simp at hz2 ⊢; omega)))⟩
            · have f0 : (n == 0) = false := by simpa using t0
              by_cases t1 : n = -1
              · subst t1
                clear f0 t0
                go_wp2_with (first | (go_at_call 98; refine (bld_byte _ w2.heap.size _ l 63 _ rfl hbd (by omega) hwz).mono ?_; rintro e w4 ⟨rfl, hbd4, hb4⟩) | (go_at_call 99; refine (bld_len _ _ _ _ N HN.out hbd4).mono ?_; rintro e w5 ⟨rfl, rfl⟩))
                go_ret2
                rw [HE.out]
                exact ⟨_, rfl, Rds.nil_, then_ (new_ (Below.refl _ _) _) (HB2.out.trans ((hbw.trans hb4).mono (by simp at hz2 ⊢; omega)))⟩
              · have f1 : (n == -1) = false := by simpa using t1
                obtain ⟨m, rfl⟩ : ∃ m : Nat, n = m := ⟨n.toNat, by omega⟩
                have h1m : 1 ≤ m := by omega
                have h2m : m ≤ 1000000 := by omega
                have HLM : Hid (letN (m : Int) = lettersS m) := Lib.hid (by unfold letN; rw [if_neg t0, if_neg t1]; simp)
                have HSl : Hid ((lettersS m).length ≤ 1000000000) := Lib.hid (by rw [← HLM.out]; omega)
                clear t0 t1
                go_wp2_with (first | (go_at_call 18; (refine (letters_any m h1m h2m _).mono ?_; rintro e wL ⟨rfl, hbL⟩; have hwzL := hbL.size)) | (go_at_call 95; (refine (bld_str _ w2.heap.size _ l (lettersS m) (hbd.below hbL) (by omega) HSl.out (by omega)).mono ?_; rintro e w4 ⟨⟨v4, rfl⟩, hbd4', hb4'⟩; have hbd4 : Bld w4 w2.heap.size w2.heap.size (l ++ letN (m : Int)) := (by rw [HLM.out]; exact hbd4'); have hb4 : Below w2.heap.size wr w4 := (hbL.mono hwz).trans hb4')) | (go_at_call 99; refine (bld_len _ _ _ _ N HN.out hbd4).mono ?_; rintro e w5 ⟨rfl, rfl⟩))
                go_ret2
                rw [HE.out]
                exact ⟨_, rfl, Rds.nil_, then_ (new_ (Below.refl _ _) _) (HB2.out.trans ((hbw.trans hb4).mono (by simp at hz2 ⊢; omega)))⟩
          · have e9 : decide ((40000 : Int) < (N : Int)) = false := by simp; omega
            by_cases t0 : n = 0
            · subst t0
              go_wp2_with (first | (go_at_call 98; refine (bld_byte _ w2.heap.size _ l 90 _ rfl hbd (by omega) hwz).mono ?_; rintro e w4 ⟨rfl, hbd4, hb4⟩) | (go_at_call 99; refine (bld_len _ _ _ _ N HN.out hbd4).mono ?_; rintro e w5 ⟨rfl, rfl⟩))
              go_roundw
              case rel => exact ⟨k + 1, _, by omega, by go_num, HS.out, by have := HN.out; omega, hbd4, hbw.trans hb4⟩
              case measure => simp [intOf]; omega
            · have f0 : (n == 0) = false := by simpa using t0
              by_cases t1 : n = -1
              · subst t1
                clear f0 t0
                go_wp2_with (first | (go_at_call 98; refine (bld_byte _ w2.heap.size _ l 63 _ rfl hbd (by omega) hwz).mono ?_; rintro e w4 ⟨rfl, hbd4, hb4⟩) | (go_at_call 99; refine (bld_len _ _ _ _ N HN.out hbd4).mono ?_; rintro e w5 ⟨rfl, rfl⟩))
                go_roundw
                case rel => exact ⟨k + 1, _, by omega, by go_num, HS.out, by have := HN.out; omega, hbd4, hbw.trans hb4⟩
                case measure => simp [intOf]; omega
              · have f1 : (n == -1) = false := by simpa using t1
                obtain ⟨m, rfl⟩ : ∃ m : Nat, n = m := ⟨n.toNat, by omega⟩
                have h1m : 1 ≤ m := by omega
                have h2m : m ≤ 1000000 := by omega
                have HLM : Hid (letN (m : Int) = lettersS m) := Lib.hid (by unfold letN; rw [if_neg t0, if_neg t1]; simp)
                have HSl : Hid ((lettersS m).length ≤ 1000000000) := Lib.hid (by rw [← HLM.out]; omega)
                clear t0 t1
                go_wp2_with (first | (go_at_call 18; (refine (letters_any m h1m h2m _).mono ?_; rintro e wL ⟨rfl, hbL⟩; have hwzL := hbL.size)) | (go_at_call 95; (refine (bld_str _ w2.heap.size _ l (lettersS m) (hbd.below hbL) (by omega) HSl.out (by omega)).mono ?_; rintro e w4 ⟨⟨v4, rfl⟩, hbd4', hb4'⟩; have hbd4 : Bld w4 w2.heap.size w2.heap.size (l ++ letN (m : Int)) := (by rw [HLM.out]; exact hbd4'); have hb4 : Below w2.heap.size wr w4 := (hbL.mono hwz).trans hb4')) | (go_at_call 99; refine (bld_len _ _ _ _ N HN.out hbd4).mono ?_; rintro e w5 ⟨rfl, rfl⟩))
                go_roundw
                case rel => exact ⟨k + 1, _, by omega, by go_num, HS.out, by have := HN.out; omega, hbd4, hbw.trans hb4⟩
                case measure => simp [intOf]; omega
        · obtain rfl : k = nums.length := by omega
          rw [List.take_length] at HL
          have y0 := hrw.cell (i := 0) (v := .slice A1 labels.length q1) rfl
          have hz3 : w.heap.size < wr.heap.size := by omega
          have HLb := Lib.hid (((hl0.alloc (.cells #[.slice A1 labels.length q1, .slice A3 nums.length q3] 37)).below HB2.out).below ((Below.refl _ _).trans (hbw.mono (Nat.le_refl _))))
          obtain ⟨i0, hi, hj0, hj1, hj2⟩ := info_parts infoStr
          go_wp2_with (first | (at_builtin; (refine wpList_append_rds rfl (.tmp 46) (.tmp 48) 33 rfl wr.heap.size 9 i0 (.string ⟨#[]⟩) 1 16 Try.underlying33 hi hj0 hj1 hj2 rfl (by decide) _ 1 [.string ⟨#[40]⟩] rfl (own_lit wr 9 #[.string ⟨#[40]⟩] 1 rfl (Nat.le_refl _) (by decide)) (.slice A1 labels.length q1) labels.length (labels.map fun s : List UInt8 => Value.string ⟨s.toArray⟩) rfl (HLb.out.alloc _) (by simp [Value.oneCell']) (by unfold maxLen; omega) (by omega) (by simp) ?_; intro v5 w5 hown5 hg5; have hz5 : wr.heap.size < w5.heap.size := by have := hg5.size; simp at this; omega)) | (at_builtin; (refine wpList_append_rds rfl (.tmp 49) (.tmp 50) 33 rfl wr.heap.size 9 i0 (.string ⟨#[]⟩) 1 16 Try.underlying33 hi hj0 hj1 hj2 rfl (by decide) _ (1 + labels.length) _ rfl (hown5.alloc _) (.slice (some ⟨w5.heap.size, 0, none⟩) 1 1) 1 [.string ⟨#[41]⟩] rfl (Rds.lit w5 9 #[.string ⟨#[41]⟩] 1 rfl (by decide)) (by simp [Value.oneCell']) (by unfold maxLen; omega) (by omega) (by simp; omega) ?_; intro v6 w6 hown6 hg6; have hb6 : Below wr.heap.size wr w6 := ((((Below.refl _ _).alloc (Nat.le_refl _) _).grown hg5 (by simp) (fun j ej => by cases ej; exact Nat.le_refl _)).alloc (by omega) _).grown hg6 (by simp; omega) (own_block hown5); have hz6 := hb6.size)) | (go_at_call 96; (refine (bld_string _ w2.heap.size _ l (hbd.below hb6) (by omega)).mono ?_; rintro e w7 ⟨rfl, hb7, hk7⟩; have hz7 := hb7.size)))
          obtain ⟨K, hK⟩ : ∃ K : Nat, max width 1 = (K : Int) := ⟨(max width 1).toNat, by omega⟩
          have hK1 : 1 ≤ K := by omega
          have HK := Lib.hid hK
          have hown7 : w7.ownsRow wr.heap.size 9 1 v6 ([40] :: labels ++ [[41]] ++ []).length (([40] :: labels ++ [[41]] ++ []).map fun s : List UInt8 => Value.string ⟨s.toArray⟩) := by
            obtain ⟨cs6, hcs6⟩ := (hbd.below hb6).block
            have := own_others hown6 hk7 (by decide) hcs6 (by decide)
            simpa [Nat.add_comm, Nat.add_left_comm] using this
          have hb7' : Below w2.heap.size w2 w7 := (hbw.trans (hb6.mono hwz)).trans hb7
          clear hb7 hk7 hown6 hg6 hown5 hg5 hb6 hK y0
          obtain ⟨wo, rfl⟩ : ∃ wo : World, wo = wr := ⟨_, rfl⟩
          go_loopw [11, 12] (fun ov sv wx => ∃ rest : List UInt8, WrAt wx wo.heap.size K labels l ov rest ∧ sv = .string ⟨rest.toArray⟩ ∧ Below w2.heap.size w2 wx ∧ wo.heap.size ≤ wx.heap.size) (fun _ sv _ => match sv with | .string s => s.size | _ => 0)
          case atStart => exact ⟨l, ⟨[], hown7, by simp, by simp⟩, rfl, hb7', by omega⟩
          case round =>
            obtain ⟨rest, hwa, rfl, hbx, hwx⟩ := hrel
            by_cases h0 : rest = []
            · subst h0
              obtain ⟨acc, hown, hch, hal⟩ := hwa
              rw [chunks_nil, List.append_nil] at hch
              have HC := Lib.hid hch
              have HE := Lib.hid (writeS_ok (width := width) HNM.out HR.out (by rw [← HL.out]; omega))
              clear hch
              go_wp2
              go_ret2
              rw [HE.out]
              refine ⟨_, rfl, ?_, then_ (new_ (Below.refl _ _) _) (HB2.out.trans (hbx.mono (by simp at hz2 ⊢; omega)))⟩
              rw [HC.out, HL.out] at hown
              rw [HK.out]
              exact Rds.of_own hown
            · have hrp : 0 < rest.length := List.length_pos_iff.2 h0
              have hfirst := HK.out
              obtain ⟨n, hn⟩ : ∃ n : Nat, n = min K rest.length := ⟨_, rfl⟩
              have hn1 : 1 ≤ n := by omega
              have hn2 : n ≤ rest.length := by omega
              have hmin : min (max width 1) (rest.length : Int) = (n : Int) := by omega
              have HN := Lib.hid hn
              clear hn hfirst h0
              obtain ⟨acc, hown, hch, hal⟩ := hwa
              have HC := Lib.hid hch
              obtain ⟨M, X, hM, hX, hMX, hMb⟩ : ∃ (M : Nat) (X : List Value), Hid (M = ([40] :: labels ++ [[41]] ++ acc).length) ∧ Hid (X = (([40] :: labels ++ [[41]] ++ acc).map fun s : List UInt8 => Value.string ⟨s.toArray⟩)) ∧ wr.ownsRow wo.heap.size 9 1 u11 M X ∧ M ≤ 2000000 := ⟨_, _, Lib.hid rfl, Lib.hid rfl, hown, by simp; omega⟩
              clear hch hown
              go_wp2
              go_region_law (refine step_append_lies _ rfl (.tmp 61) (.tmp 65) 33 rfl wo.heap.size 9 i0 (.string ⟨#[]⟩) 1 16 Try.underlying33 hi hj0 hj1 hj2 rfl (by decide) u11 M X (by simp [Act.eval, Act.put]) ((own_drew hMX).alloc _) ⟨wr.heap.size, 0, none⟩ 1 1 [.string _] (by simp [Act.eval, Act.put]) rfl (cell_one_new _ _ _) (by simp [Value.oneCell']) (by decide) (by unfold maxLen; omega) (by omega) (by simp; omega) _ rfl ?_; intro g cap wz hown' hgrow hat hlt)
              simp only [Act.put, List.getElem_toArray, List.getElem_cons_succ, List.getElem_cons_zero, List.setIfInBounds_toArray, List.set_cons_succ, List.set_cons_zero]
              go_wp2
              have hgz := hgrow.size
              go_roundw
              case rel => exact ⟨rest.drop n, wr_snoc hown' hM.out hX.out HN.out hK1 hrp HC.out hal, by rw [bytes_cut]; simp, ((hbx.alloc (by omega) _).drew).grown hgrow (by simp; omega) (fun j ej => Nat.le_trans hwz (own_block hMX j ej)), by simp at hgz; omega⟩
              case measure => rw [bytes_cut]; simp [ByteArray.size]; omega
    · have e3 : decide (rightS none nums) = false := decide_eq_false hr
      have HS := Lib.hid (writeS_right (width := width) hnm hr)
      clear hnm hr
      go_enter Try.func43, Try.ntmps43
      go_wp2_with (first | (go_at_call 86; refine (names_any _ _ labels (hl0.alloc _)).mono ?_; rintro e w2 ⟨rfl, hb2⟩; have hr2 := (Row.new w 37 #[.slice A1 labels.length q1, .slice A3 nums.length q3]).below hb2 (by simp); have y0 := hr2.cell (i := 0) (v := .slice A1 labels.length q1) rfl; have y1 := hr2.cell (i := 1) (v := .slice A3 nums.length q3) rfl) | (go_at_call 88; refine (right_any _ _ nums ((hn0.alloc _).below hb2)).mono ?_; rintro e w3 ⟨rfl, rfl⟩))
      go_ret2
      rw [HS.out]
      exact ⟨_, rfl, Rds.nil_, then_ (new_ (Below.refl _ _) _) hb2⟩
  · have e1 : decide (namesS labels) = false := decide_eq_false hnm
    have HS := Lib.hid (writeS_names (nums := nums) (width := width) hnm)
    clear hnm
    go_enter Try.func43, Try.ntmps43
    go_wp2_with (go_at_call 86; refine (names_any _ _ labels (hl0.alloc _)).mono ?_; rintro e w2 ⟨rfl, hb2⟩)
    go_ret2
    rw [HS.out]
    exact ⟨_, rfl, Rds.nil_, then_ (new_ (Below.refl _ _) _) hb2⟩
end Go.Proofs.Ytmiblmmjgoeahaa
