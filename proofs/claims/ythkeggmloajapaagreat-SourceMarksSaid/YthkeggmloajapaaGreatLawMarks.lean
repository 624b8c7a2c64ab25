/- The law SourceMarks. -/
import Derived.Test.YthkeggmloajapaaGreatRefMark4
import Derived.Test.YthkeggmloajapaaGreatRefMark5
import Derived.Test.YthkeggmloajapaaGreatLawStrip
namespace Go.Proofs.YthkeggmloajapaaGreat
open Go.RowKit
theorem heldRMark : Tryz.prog.stoodInHeld 26 = false := by kernel_rfl
set_option maxRecDepth 100000 in
theorem equal_rmarks (w : World) (v1 v2 : Value) (l : List MarkD) (h1 : Rds w 2 v1 l.length (markC l)) (h2 : Rds w 2 v2 l.length (markC l)) :
    Calls Tryz.prog 9 #[v1, v2] w fun e w' => e = .returned (.bool true) ∧ Below w.heap.size w w' := by
  obtain ⟨A1, c1, rfl, hc1, hm1, hx1⟩ := marks_open h1
  obtain ⟨A2, c2, rfl, hc2, hm2, hx2⟩ := marks_open h2
  unfold maxLen at hm1 hm2
  have hh := heldRMark
  go_enter Tryz.func9, Tryz.ntmps9
  go_wp2
  go_loopw [13] (fun i wr => ∃ k n : Nat, k ≤ l.length ∧ i = .int .i64 k ∧ wr = w.drewN n) (fun i _ => l.length - (intOf i).toNat)
  case atStart => exact ⟨0, 0, Nat.zero_le _, rfl, rfl⟩
  case round =>
    obtain ⟨k, n, hk, rfl, rfl⟩ := hrel
    by_cases hlt : k < l.length
    · obtain ⟨y, hy⟩ : ∃ y, l[k]? = some y := ⟨_, List.getElem?_eq_getElem hlt⟩
      obtain ⟨b1, o1, rfl, s1, s2⟩ := hx1 k y hy
      obtain ⟨b2, o2, rfl, r1, r2⟩ := hx2 k y hy
      clear hx1 hx2 hy
      go_wp2
      go_region
      go_wp2
      go_roundw
      case rel => exact ⟨k + 1, n + 1, by omega, by go_num, rfl⟩
      case measure => simp [intOf]; omega
    · go_wp2
      go_ret
      exact ⟨rfl, below_drewN (Below.refl _ _) n⟩
def sumM (l : List MarkD) : Nat := (l.flatMap (·.2)).length
theorem sumM_take {l : List MarkD} {k : Nat} {x : MarkD} (h : l[k]? = some x) : sumM (l.take (k + 1)) = sumM (l.take k) + x.2.length := by
  unfold sumM
  rw [take_snoc h]
  simp
theorem sumM_part (l : List MarkD) {B : Nat} (hz : ∀ m ∈ l, m.2.length ≤ B) : ∀ k, sumM (l.take k) ≤ k * B
  | 0 => by simp [sumM]
  | k + 1 => by
    have ih := sumM_part l hz k
    rcases Nat.lt_or_ge k l.length with h | h
    · have hx := List.getElem?_eq_getElem h
      rw [sumM_take hx, Nat.succ_mul]
      have := hz _ (List.getElem_mem h)
      omega
    · rw [List.take_of_length_le (by omega)]
      rw [List.take_of_length_le h] at ih
      rw [Nat.succ_mul]
      omega
theorem sumM_mem {l : List MarkD} {m : MarkD} (h : m ∈ l) : m.2.length ≤ sumM l := by
  obtain ⟨a, b, rfl⟩ := List.append_of_mem h
  unfold sumM
  simp
  omega
theorem markC_own {w : World} {base : Nat} {e : TypeId} {v : Value} {l : List MarkD} {t : MarkD} {X : List Value} {n : Nat} (h : w.ownsRow base e 2 v (n + 1) (X ++ [.int .i64 t.1, .string ⟨t.2.toArray⟩])) (hX : X = markC l) (hn : n = l.length) :
    w.ownsRow base e 2 v (l ++ [t]).length (markC (l ++ [t])) := by
  subst hX hn
  rw [markC_snoc, List.length_append]
  exact h
theorem mrun_count : ∀ (n : Nat) (s : List UInt8) (i : Nat) (out : List MarkD), s.length ≤ n → (mrun n s i out).1.length ≤ out.length + s.length
  | 0, s, i, out, _ => by simp [mrun]
  | n + 1, s, i, out, h => by
    rw [mrun]
    split
    · simp
    · split
      · simp
      · rename_i k t c hs
        have hp := mstep_pos hs
        have h1 := mrun_count n (s.drop c) (i + c) (addM out k t) (by rw [List.length_drop]; omega)
        have h2 := addM_len out k t
        rw [List.length_drop] at h1
        omega
theorem marks_count (s : List UInt8) : (marksS s).1.length ≤ 40000 := by
  unfold marksS
  split
  · simp
  · have h := mrun_count s.length s 0 [] (Nat.le_refl _)
    simp at h
    omega
set_option maxRecDepth 100000 in
set_option maxHeartbeats 8000000 in
theorem law_marks (w : World) (s : List UInt8) (v : Value) (l : List MarkD) (hv : Rds w 2 v l.length (markC l)) (hM : MaxAt w) (hb24 : l.length * 24 ≤ 140737488351232) (hz : ∀ m ∈ l, m.2.length ≤ 140737488351232) (hsl : s.length ≤ maxLen) :
    Calls Tryz.prog 3 #[.string ⟨s.toArray⟩, v] w fun e w' => e = .returned (.bool true) ∧ Below w.heap.size w w' := by
  obtain ⟨A1, a1, rfl⟩ : ∃ a c, v = .slice a l.length c := by obtain ⟨a, c, h, _⟩ := hv; exact ⟨a, c, h⟩
  obtain ⟨i9, ki, kj0, kj1, kj2⟩ := info_parts infoRMark
  have HV := Lib.hid hv
  have HM := Lib.hid hM
  have HZ := Lib.hid hz
  have hln : l.length ≤ 9223372036854775807 := by omega
  clear hv hM hz
  unfold maxLen at hsl
  go_enter Tryz.func3, Tryz.ntmps3
  go_wp2
  go_loopw [5, 6, 24] (fun nv mv iv wr => ∃ (k : Nat) (z : Int), k ≤ l.length ∧ iv = .int .i64 k ∧ nv = .int .i64 z ∧ (l.length ≤ 50 → z = (sumM (l.take k) : Nat)) ∧ wr.ownsRow w.heap.size 26 2 mv (l.take k).length (markC (l.take k)) ∧ Below w.heap.size w wr) (fun _ _ iv _ => l.length - (intOf iv).toNat)
  case atStart => exact ⟨0, 0, Nat.zero_le _, rfl, rfl, fun _ => rfl, World.ownsRow_nil _ _ _ _, Below.refl _ _⟩
  case round =>
    obtain ⟨wo, rfl⟩ : ∃ wo, wo = wr := ⟨_, rfl⟩
    obtain ⟨k, z, hk, rfl, rfl, hzk, hown, hb⟩ := hrel
    have hwz := hb.size
    by_cases hlt : k < l.length
    · obtain ⟨⟨mk, mt⟩, hx⟩ : ∃ x, l[k]? = some x := ⟨_, List.getElem?_eq_getElem hlt⟩
      obtain ⟨A', c', hvv, _, _, hxx⟩ := marks_open (HV.out.below hb)
      obtain ⟨b, o, hA, g1, g2⟩ := hxx k _ hx
      obtain ⟨rfl, _, rfl⟩ := (by simpa using hvv : A1 = A' ∧ True ∧ a1 = c')
      subst hA
      dsimp only at g1 g2
      obtain ⟨L, hL⟩ : ∃ L, L = l.take k := ⟨_, rfl⟩
      have hLl : L.length = k := by rw [hL]; simp; omega
      rw [← hL, hLl] at hown
      have HLl := Lib.hid hLl
      have HT : Hid (l.take (k + 1) = L ++ [(mk, mt)]) := Lib.hid (by rw [hL]; exact take_snoc hx)
      have HZK : Hid (l.length ≤ 50 → wrap64 (z + (mt.length : Int)) = (sumM (l.take (k + 1)) : Nat)) := Lib.hid fun h => by
        have h1 := sumM_part l HZ.out (k + 1)
        have h2 : (k + 1) * 140737488351232 ≤ 50 * 140737488351232 := Nat.mul_le_mul_right _ (by omega)
        rw [sumM_take hx] at h1 ⊢
        rw [hzk h]
        dsimp only at h1 ⊢
        unfold wrap64
        omega
      clear hxx hx hvv hL hLl hzk
      go_wp2_with (at_builtin; (refine wpList_append_own _ rfl (.tmp 33) (.tmp 35) 23 rfl w.heap.size 26 i9 (.agg #[.int .i64 0, .string ⟨#[]⟩]) 2 24 Tryz.underlying23 ki kj0 kj1 kj2 rfl (by decide) _ k (markC L) rfl ((hown.alloc _).alloc _) ⟨wo.heap.size + 1, 0, none⟩ 1 1 [.int .i64 mk, .string ⟨mt.toArray⟩] rfl rfl (cells_at' _ _ _ _ rfl (by simp)) (by simp [Value.oneCell']) (by unfold maxLen; omega) (by omega) (by simp; omega) ?_; intro v' wz hown' hgrow _))
      go_roundw
      case rel => exact ⟨k + 1, _, by omega, by go_num, rfl, HZK.out, by rw [HT.out]; exact markC_own hown' rfl HLl.out.symm, ((hb.alloc hwz _).alloc (by simp; omega) _).grown hgrow (by simp; omega) (own_block hown)⟩
      case measure => exact ret_measure _ (by go_num) hlt
    · obtain rfl : k = l.length := by omega
      rw [List.take_length] at hown
      obtain ⟨mA, mc, rfl, -⟩ := own_form hown
      have HMV := Lib.hid (Rds.of_own hown)
      have HB := Lib.hid hb
      rw [List.take_length] at hzk
      clear hown hb hwz hk hlt
      by_cases h1 : 2000 < s.length ∧ s.length ≤ 40000
      · have q1 : decide ((2000 : Int) < (s.length : Int)) = true := decide_eq_true (by omega)
        have q2 : decide ((s.length : Int) ≤ 40000) = true := decide_eq_true (by omega)
        clear h1 hzk
        go_wp2_with (go_at_call 4; (refine (awake02 _ (HM.out.below HB.out)).mono ?_; rintro e w9 ⟨rfl, hb9⟩; have HB9 := Lib.hid (then_ HB.out hb9); clear hb9))
        go_ret
        exact ⟨rfl, HB9.out⟩
      · have hcase : s.length ≤ 2000 ∨ 40000 < s.length := by omega
        clear h1
        have hq : decide ((2000 : Int) < (s.length : Int)) = false ∨ (decide ((2000 : Int) < (s.length : Int)) = true ∧ decide ((s.length : Int) ≤ 40000) = false) := by
          rcases hcase with h | h
          · exact .inl (decide_eq_false (by omega))
          · exact .inr ⟨decide_eq_true (by omega), decide_eq_false (by omega)⟩
        clear hcase
        by_cases h50 : 50 < l.length
        · have q3 : decide ((50 : Int) < (l.length : Int)) = true := decide_eq_true (by omega)
          clear hzk h50
          rcases hq with q1 | ⟨q1, q2⟩
          all_goals
            go_wp2_with (go_at_call 4; (refine (awake02 _ (HM.out.below HB.out)).mono ?_; rintro e w9 ⟨rfl, hb9⟩; have HB9 := Lib.hid (then_ HB.out hb9); clear hb9))
            go_ret
            exact ⟨rfl, HB9.out⟩
        · have q3 : decide ((50 : Int) < (l.length : Int)) = false := decide_eq_false (by omega)
          have hzs := hzk (by omega)
          clear hzk
          subst hzs
          by_cases h3000 : 3000 < sumM l
          · have q4 : decide ((3000 : Int) < ((sumM l : Nat) : Int)) = true := decide_eq_true (by omega)
            have q5 : decide (3000 < sumM l) = true := decide_eq_true h3000
            clear h3000 h50
            rcases hq with q1 | ⟨q1, q2⟩
            all_goals
              go_wp2_with (go_at_call 4; (refine (awake02 _ (HM.out.below HB.out)).mono ?_; rintro e w9 ⟨rfl, hb9⟩; have HB9 := Lib.hid (then_ HB.out hb9); clear hb9))
              go_ret
              exact ⟨rfl, HB9.out⟩
          · have q4 : decide ((3000 : Int) < ((sumM l : Nat) : Int)) = false := decide_eq_false (by omega)
            have q5 : decide (3000 < sumM l) = false := decide_eq_false h3000
            have HMT : Hid (∀ m ∈ l, m.2.length ≤ 1000000) := Lib.hid fun m hm => by have := sumM_mem hm; omega
            have HSM : Hid ((l.flatMap (·.2)).length ≤ 100000000) := Lib.hid (by
              have h9 : sumM l ≤ 3000 := by omega
              unfold sumM at h9
              omega)
            have HLL : Hid (l.length ≤ 1000000) := Lib.hid (by omega)
            obtain ⟨⟨ms, pl, er⟩, hms⟩ : ∃ r, marksS s = r := ⟨_, rfl⟩
            have HMS := Lib.hid hms
            obtain ⟨⟨us, ue⟩, hus⟩ : ∃ r, unmarkS l = r := ⟨_, rfl⟩
            have HUS := Lib.hid hus
            have HML : Hid (ms.length ≤ 40000) := Lib.hid (by have := marks_count s; rw [hms] at this; exact this)
            clear hms hus h50 h3000
            rcases hq with q1 | ⟨q1, q2⟩
            all_goals
              go_wp2_with (first
                | (go_at_call 5; (refine (marks_any _ s).mono ?_; rw [HMS.out]; rintro e w1 ⟨v1, rfl, hv1, hb1⟩; obtain ⟨A3, c3, rfl, -⟩ := marks_open hv1; have HV1 := Lib.hid hv1; have HB1 := Lib.hid (then_ HB.out hb1); have HMV1 := Lib.hid (HMV.out.below hb1); clear hv1 hb1))
                | (go_at_call 6; (refine (ref_marks _ s).mono ?_; rw [HMS.out]; rintro e w2 ⟨v2, rfl, hv2, hb2⟩; obtain ⟨A4, c4, rfl, -⟩ := marks_open hv2; have HV2 := Lib.hid hv2; have HB12 := Lib.hid hb2; have HMV2 := Lib.hid (HMV1.out.below hb2); have HB2 := Lib.hid (then_ HB1.out hb2); clear hv2 hb2)))
              have hms4 := HML.out
              go_loopw [15, 70] (fun cv iv wr => ∃ k : Nat, k ≤ ms.length ∧ iv = .int .i64 k ∧ wr.ownsRow w2.heap.size 26 2 cv (ms.take k).length (markC (ms.take k)) ∧ Below w2.heap.size w2 wr) (fun _ iv _ => ms.length - (intOf iv).toNat)
              case atStart => exact ⟨0, Nat.zero_le _, rfl, World.ownsRow_nil _ _ _ _, Below.refl _ _⟩
              case round =>
                obtain ⟨wo, rfl⟩ : ∃ wo, wo = wr := ⟨_, rfl⟩
                obtain ⟨k, hk, rfl, hown, hb⟩ := hrel
                have hwz := hb.size
                by_cases hlt : k < ms.length
                · obtain ⟨⟨mk, mt⟩, hx⟩ : ∃ x, ms[k]? = some x := ⟨_, List.getElem?_eq_getElem hlt⟩
                  obtain ⟨A', c', hvv, _, _, hxx⟩ := marks_open ((HV1.out.below HB12.out).below hb)
                  obtain ⟨b, o, hA, g1, g2⟩ := hxx k _ hx
                  obtain ⟨rfl, _, rfl⟩ := (by simpa using hvv : A3 = A' ∧ True ∧ c3 = c')
                  subst hA
                  dsimp only at g1 g2
                  obtain ⟨L, hL⟩ : ∃ L, L = ms.take k := ⟨_, rfl⟩
                  have hLl : L.length = k := by rw [hL]; simp; omega
                  rw [← hL, hLl] at hown
                  have HLl := Lib.hid hLl
                  have HT : Hid (ms.take (k + 1) = L ++ [(mk, mt)]) := Lib.hid (by rw [hL]; exact take_snoc hx)
                  clear hxx hx hvv hL hLl
                  go_wp2_with (at_builtin; (refine wpList_append_own _ rfl (.tmp 74) (.tmp 76) 23 rfl w2.heap.size 26 i9 (.agg #[.int .i64 0, .string ⟨#[]⟩]) 2 24 Tryz.underlying23 ki kj0 kj1 kj2 rfl (by decide) _ k (markC L) rfl ((hown.alloc _).alloc _) ⟨wo.heap.size + 1, 0, none⟩ 1 1 [.int .i64 mk, .string ⟨mt.toArray⟩] rfl rfl (cells_at' _ _ _ _ rfl (by simp)) (by simp [Value.oneCell']) (by unfold maxLen; omega) (by omega) (by simp; omega) ?_; intro v' wz hown' hgrow _))
                  go_roundw
                  case rel => exact ⟨k + 1, by omega, by go_num, by rw [HT.out]; exact markC_own hown' rfl HLl.out.symm, ((hb.alloc hwz _).alloc (by simp; omega) _).grown hgrow (by simp; omega) (own_block hown)⟩
                  case measure => exact ret_measure _ (by go_num) hlt
                · obtain rfl : k = ms.length := by omega
                  rw [List.take_length] at hown
                  obtain ⟨cA, cc, rfl, -⟩ := own_form hown
                  have HCV := Lib.hid (Rds.of_own hown)
                  have HMV3 := Lib.hid (HMV2.out.below hb)
                  have HBW := Lib.hid hb
                  have HW2 := Lib.hid (then_ HB2.out hb)
                  clear hown hb hwz hk hlt
                  go_wp2_with (first
                    | (go_at_call 7; (refine (unmark_any _ _ l (HV.out.below HW2.out) HMT.out HSM.out).mono ?_; rintro e w3 ⟨rfl, hb3⟩; rw [HUS.out]; have HB3 := Lib.hid (then_ HBW.out hb3); have HW3 := Lib.hid (then_ HW2.out hb3); have HX3 := Lib.hid hb3; clear hb3))
                    | (go_at_call 8; (refine (ref_unmark _ _ l (HMV3.out.below HX3.out) HMT.out HSM.out HLL.out).mono ?_; rintro e w4 ⟨rfl, hb4⟩; rw [HUS.out]; have HX4 := Lib.hid (then_ HX3.out hb4); have HB4 := Lib.hid (then_ HB3.out hb4); have HW4 := Lib.hid (then_ HW3.out hb4); clear hb4))
                    | (go_at_call 9; (refine (equal_rmarks _ _ _ ms (HCV.out.below HX4.out) (HV2.out.below HB4.out)).mono ?_; rintro e w5 ⟨rfl, hb5⟩; have HW5 := Lib.hid (then_ HW4.out hb5); clear hb5))
                    | (go_at_call 4; (refine (awake02 _ (HM.out.below HW5.out)).mono ?_; rintro e w9 ⟨rfl, hb9⟩; have HB9 := Lib.hid (then_ HW5.out hb9); clear hb9)))
                  trace_state
                  go_ret
                  exact ⟨rfl, HB9.out⟩
end Go.Proofs.YthkeggmloajapaaGreat
