/- The iterator over the letters yields just the items. -/
import Derived.Test.YtmiblmmjgoeahaaRangeLaw
import Derived.Test.YtmiblmmjgoeahaaNumItems
namespace Go.Proofs.Ytmiblmmjgoeahaa
open Go.RowKit Go.Shelf
attribute [local go_sem] Oper.semAt_some
/-- an item as the argument of yield -/
def encIt (x : It) : Array Value := #[.agg #[.int .i64 x.1, .int .i64 x.2.1, .bool x.2.2]]
/-- the types of the cells that the iterator reads behind a round -/
def KNum (t : TypeId) : Prop := t = 9 ∨ t = 159

theorem jto {J : List It → World → Prop} {B : Nat} {W0 W : World} {pre : List It} (hJ : Stable (okIter fun _ => False) B J) (h : J pre W0) (hb : Below W0.heap.size W0 W) : J pre W := hJ _ _ _ h (Turn.grow hb)

set_option maxRecDepth 100000 in
set_option maxHeartbeats 4000000 in
theorem num_iter (n : Nat) (h1 : 1 ≤ n) (s : List UInt8) (hmax : s.length ≤ 40000) (w : World) (Bn : Nat) (hrow : Row w Bn 9 #[.string ⟨s.toArray⟩]) :
    SeqT n Try.prog 132 #[.pointer (some ⟨Bn, 0, none⟩)] encIt (KeepsT KNum) (fun _ => False) (nitems 0 false 0 s) w := by
  intro l J Jx W hW hJ hJx hY hJ0
  have hrow0 := hrow.below hW hrow.lt
  clear hrow
  show CallsIn Fence.wide n Try.prog 132 #[.func (.yield l) #[] #[], .pointer (some ⟨Bn, 0, none⟩)] W _
  refine callsIn_of_wp Try.func132 rfl trivial ?_ rfl
  simp only [Try.ntmps132, List.size_toArray, List.length_cons, List.length_nil, Nat.reduceAdd, Nat.reduceSub, Array.replicate_succ, Array.replicate_zero, List.push_toArray, List.append_toArray, List.nil_append, List.cons_append]
  have hc0 := hrow0.cell (i := 0) (v := .string ⟨s.toArray⟩) rfl
  gi_wp2
  gi_loopw [3, 4, 5, 11] (fun nv iv fv kv wr => ∃ (k r : Nat) (f : Bool) (pre : List It) (W0 : World), k ≤ s.length ∧ r ≤ 1000000 ∧ kv = .int .i64 k ∧ nv = .int .i64 r ∧ iv = .bool (decide (r ≠ 0)) ∧ fv = .bool f ∧ (f = true → r = 0) ∧
    nitems 0 false 0 s = pre ++ nitems r f k (s.drop k) ∧ J pre W0 ∧ Below W0.heap.size W0 wr ∧ Row wr Bn 9 #[.string ⟨s.toArray⟩]) (fun _ _ _ k _ => s.length - (intOf k).toNat)
  case atStart => exact ⟨0, 0, false, [], W, Nat.zero_le _, Nat.zero_le _, rfl, rfl, rfl, rfl, by simp, by simp, hJ0, Below.refl _ _, hrow0⟩
  case round =>
    obtain ⟨k, r, f, pre, W0, hk, hr, rfl, rfl, rfl, rfl, hf, hit, hj, hb, hrw⟩ := hrel
    have HI := Lib.hid hit
    clear hit
    have hcs := hrw.cell (i := 0) (v := .string ⟨s.toArray⟩) rfl
    by_cases hlt : k < s.length
    · obtain ⟨c, hce, hcl⟩ : ∃ c : Nat, (ByteArray.mk s.toArray)[k].toNat = c ∧ c = s[k].toNat := ⟨_, rfl, rfl⟩
      have HC := Lib.hid hcl
      clear hcl
      have hc256 : c < 256 := by rw [HC.out]; exact s[k].toNat_lt
      by_cases c1 : 65 ≤ c ∧ c ≤ 84
      · obtain ⟨c1, c2⟩ := c1
        have hvb : wrongVal r s[k] = 20 * (r : Int) + ((c : Int) - 65) + 1 := by
          unfold wrongVal
          rw [← HC.out, if_pos ⟨c1, c2⟩]
          omega
        by_cases c3 : 20 * r + (c - 65) + 1 ≤ 1000000
        · have HI2 := Lib.hid (items_num HI.out hlt (nstep_num (f := f) (r := r) (b := s[k]) (HC.out ▸ c1) (HC.out ▸ c2) (HC.out ▸ c3)) (v' := 20 * (r : Int) + ((c : Int) - 65) + 1) (by have := HC.out; omega))
          clear hvb
          have hd : decide ((1000000 : Int) < 20 * (r : Int) + ((c : Int) - 65) + 1) = false := by simp; omega
          obtain ⟨fn, tmps, assign, body, hy, hR⟩ := hY pre (20 * (r : Int) + ((c : Int) - 65) + 1, k, false) (wr.alloc (.cells #[.int .i64 (20 * (r : Int) + ((c : Int) - 65) + 1), .int .i64 (k : Int), .bool false] 159)) (jto hJ hj (hb.alloc hb.size _)) ⟨_, by rw [HI2.out]; simp; rfl⟩
          dsimp only [encIt] at hy
          gi_wp2
          refine hR.mono ?_
          rintro e W' (⟨rfl, hJ', hk'⟩ | ⟨rfl, hJx'⟩)
          · have hrw' := hk'.row (hrw.alloc _) (Or.inl rfl)
            have hcn := (hk'.row (Row.new wr _ _) (Or.inr rfl)).cell (i := 2) (v := .bool false) rfl
            clear hy hR hk'
            gi_wp2
            go_roundw
            case rel => exact ⟨k + 1, 0, true, pre ++ [_], W', by omega, by omega, by go_num, rfl, rfl, rfl, by simp, by rw [HI2.out]; simp, hJ', Below.refl _ _, hrw'⟩
            case measure => simp [intOf]; omega
          · clear hy hR
            gi_wp2
            refine bodyPost_ret (results_none rfl _ _ _) rfl ?_
            exact ⟨⟨_, rfl⟩, .inr ⟨_, hJx'⟩⟩
        · have HI2 := Lib.hid (items_bad HI.out hlt (nstep_num_bad (f := f) (r := r) (b := s[k]) (HC.out ▸ c1) (HC.out ▸ c2) (HC.out ▸ c3)) hvb)
          clear hvb
          have hd : decide ((1000000 : Int) < 20 * (r : Int) + ((c : Int) - 65) + 1) = true := by simp; omega
          obtain ⟨fn, tmps, assign, body, hy, hR⟩ := hY pre (20 * (r : Int) + ((c : Int) - 65) + 1, k, true) (wr.alloc (.cells #[.int .i64 (20 * (r : Int) + ((c : Int) - 65) + 1), .int .i64 (k : Int), .bool true] 159)) (jto hJ hj (hb.alloc hb.size _)) ⟨[], by rw [HI2.out]; simp⟩
          dsimp only [encIt] at hy
          gi_wp2
          refine hR.mono ?_
          rintro e W' (⟨rfl, hJ', hk'⟩ | ⟨rfl, hJx'⟩)
          · have hcn := (hk'.row (Row.new wr _ _) (Or.inr rfl)).cell (i := 2) (v := .bool true) rfl
            clear hy hR hk'
            gi_wp2
            refine bodyPost_ret (results_none rfl _ _ _) rfl ?_
            exact ⟨⟨_, rfl⟩, .inl (by rw [HI2.out]; exact hJ')⟩
          · clear hy hR
            gi_wp2
            refine bodyPost_ret (results_none rfl _ _ _) rfl ?_
            exact ⟨⟨_, rfl⟩, .inr ⟨_, hJx'⟩⟩
      · by_cases c2 : 85 ≤ c ∧ c ≤ 89
        · obtain ⟨c2, c3⟩ := c2
          clear c1
          by_cases c4 : 5 * r + (c - 85) + 1 ≤ 1000000
          · have HI2 := Lib.hid (items_part HI.out hlt (nstep_part (f := f) (r := r) (b := s[k]) (HC.out ▸ c2) (HC.out ▸ c3) (HC.out ▸ c4)))
            gi_wp2
            go_roundw
            case rel => exact ⟨k + 1, _, false, pre, W0, by omega, HC.out ▸ c4, by go_num, congrArg _ (by have := HC.out; omega), by simp, rfl, by simp, HI2.out, hj, hb.alloc hb.size _, hrw.alloc _⟩
            case measure => simp [intOf]; omega
          · have hvb : wrongVal r s[k] = 0 := by
              unfold wrongVal
              rw [← HC.out, if_neg (by omega), if_neg (by omega)]
            have HI2 := Lib.hid (items_bad HI.out hlt (nstep_part_bad (f := f) (r := r) (b := s[k]) (HC.out ▸ c2) (HC.out ▸ c3) (HC.out ▸ c4)) hvb)
            clear hvb
            obtain ⟨fn, tmps, assign, body, hy, hR⟩ := hY pre (0, k, true) (wr.alloc (.cells #[.int .i64 0, .int .i64 (k : Int), .bool true] 159)) (jto hJ hj (hb.alloc hb.size _)) ⟨[], by rw [HI2.out]; simp⟩
            dsimp only [encIt] at hy
            gi_wp2
            refine hR.mono ?_
            rintro e W' (⟨rfl, hJ', hk'⟩ | ⟨rfl, hJx'⟩)
            · have hcn := (hk'.row (Row.new wr _ _) (Or.inr rfl)).cell (i := 2) (v := .bool true) rfl
              clear hy hR hk'
              gi_wp2
              refine bodyPost_ret (results_none rfl _ _ _) rfl ?_
              exact ⟨⟨_, rfl⟩, .inl (by rw [HI2.out]; exact hJ')⟩
            · clear hy hR
              gi_wp2
              refine bodyPost_ret (results_none rfl _ _ _) rfl ?_
              exact ⟨⟨_, rfl⟩, .inr ⟨_, hJx'⟩⟩
        · have c12 : c < 65 ∨ 89 < c := by omega
          clear c1 c2
          by_cases c3 : c = 90
          · subst c3
            cases f with
            | true =>
              obtain rfl := hf rfl
              have HI2 := Lib.hid (items_num HI.out hlt (nstep_save (r := 0) HC.out.symm) rfl)
              obtain ⟨fn, tmps, assign, body, hy, hR⟩ := hY pre (0, k, false) (wr.alloc (.cells #[.int .i64 0, .int .i64 (k : Int), .bool false] 159)) (jto hJ hj (hb.alloc hb.size _)) ⟨_, by rw [HI2.out]; simp; rfl⟩
              dsimp only [encIt] at hy
              gi_wp2
              refine hR.mono ?_
              rintro e W' (⟨rfl, hJ', hk'⟩ | ⟨rfl, hJx'⟩)
              · have hrw' := hk'.row (hrw.alloc _) (Or.inl rfl)
                have hcn := (hk'.row (Row.new wr _ _) (Or.inr rfl)).cell (i := 2) (v := .bool false) rfl
                clear hy hR hk'
                gi_wp2
                go_roundw
                case rel => exact ⟨k + 1, 0, false, pre ++ [_], W', by omega, by omega, by go_num, rfl, rfl, rfl, by simp, by rw [HI2.out]; simp, hJ', Below.refl _ _, hrw'⟩
                case measure => simp [intOf]; omega
              · clear hy hR
                gi_wp2
                refine bodyPost_ret (results_none rfl _ _ _) rfl ?_
                exact ⟨⟨_, rfl⟩, .inr ⟨_, hJx'⟩⟩
            | false =>
              have hvb : wrongVal r s[k] = 0 := by
                unfold wrongVal
                rw [← HC.out, if_neg (by omega), if_neg (by omega)]
              have HI2 := Lib.hid (items_bad HI.out hlt (nstep_save_bad HC.out.symm) hvb)
              clear hvb
              obtain ⟨fn, tmps, assign, body, hy, hR⟩ := hY pre (0, k, true) (wr.alloc (.cells #[.int .i64 0, .int .i64 (k : Int), .bool true] 159)) (jto hJ hj (hb.alloc hb.size _)) ⟨[], by rw [HI2.out]; simp⟩
              dsimp only [encIt] at hy
              gi_wp2
              refine hR.mono ?_
              rintro e W' (⟨rfl, hJ', hk'⟩ | ⟨rfl, hJx'⟩)
              · have hcn := (hk'.row (Row.new wr _ _) (Or.inr rfl)).cell (i := 2) (v := .bool true) rfl
                clear hy hR hk'
                gi_wp2
                refine bodyPost_ret (results_none rfl _ _ _) rfl ?_
                exact ⟨⟨_, rfl⟩, .inl (by rw [HI2.out]; exact hJ')⟩
              · clear hy hR
                gi_wp2
                refine bodyPost_ret (results_none rfl _ _ _) rfl ?_
                exact ⟨⟨_, rfl⟩, .inr ⟨_, hJx'⟩⟩
          · have d3 : ((c : Int) == 90) = false := by simp; omega
            by_cases c4 : c = 63
            · subst c4
              have hvb : wrongVal r s[k] = -1 := by
                unfold wrongVal
                rw [← HC.out, if_neg (by omega), if_pos rfl]
              by_cases c5 : r = 0
              · subst c5
                clear hvb
                have HI2 := Lib.hid (items_num HI.out hlt (nstep_unknown (f := f) HC.out.symm) rfl)
                obtain ⟨fn, tmps, assign, body, hy, hR⟩ := hY pre (-1, k, false) (wr.alloc (.cells #[.int .i64 (-1), .int .i64 (k : Int), .bool false] 159)) (jto hJ hj (hb.alloc hb.size _)) ⟨_, by rw [HI2.out]; simp; rfl⟩
                dsimp only [encIt] at hy
                gi_wp2
                refine hR.mono ?_
                rintro e W' (⟨rfl, hJ', hk'⟩ | ⟨rfl, hJx'⟩)
                · have hrw' := hk'.row (hrw.alloc _) (Or.inl rfl)
                  have hcn := (hk'.row (Row.new wr _ _) (Or.inr rfl)).cell (i := 2) (v := .bool false) rfl
                  clear hy hR hk'
                  gi_wp2
                  go_roundw
                  case rel => exact ⟨k + 1, 0, false, pre ++ [_], W', by omega, by omega, by go_num, rfl, rfl, rfl, by simp, by rw [HI2.out]; simp, hJ', Below.refl _ _, hrw'⟩
                  case measure => simp [intOf]; omega
                · clear hy hR
                  gi_wp2
                  refine bodyPost_ret (results_none rfl _ _ _) rfl ?_
                  exact ⟨⟨_, rfl⟩, .inr ⟨_, hJx'⟩⟩
              · have HI2 := Lib.hid (items_bad HI.out hlt (nstep_unknown_bad (f := f) HC.out.symm c5) hvb)
                clear hvb
                obtain ⟨fn, tmps, assign, body, hy, hR⟩ := hY pre (-1, k, true) (wr.alloc (.cells #[.int .i64 (-1), .int .i64 (k : Int), .bool true] 159)) (jto hJ hj (hb.alloc hb.size _)) ⟨[], by rw [HI2.out]; simp⟩
                dsimp only [encIt] at hy
                gi_wp2
                refine hR.mono ?_
                rintro e W' (⟨rfl, hJ', hk'⟩ | ⟨rfl, hJx'⟩)
                · have hcn := (hk'.row (Row.new wr _ _) (Or.inr rfl)).cell (i := 2) (v := .bool true) rfl
                  clear hy hR hk'
                  gi_wp2
                  refine bodyPost_ret (results_none rfl _ _ _) rfl ?_
                  exact ⟨⟨_, rfl⟩, .inl (by rw [HI2.out]; exact hJ')⟩
                · clear hy hR
                  gi_wp2
                  refine bodyPost_ret (results_none rfl _ _ _) rfl ?_
                  exact ⟨⟨_, rfl⟩, .inr ⟨_, hJx'⟩⟩
            · have d4 : ((c : Int) == 63) = false := by simp; omega
              have hvb : wrongVal r s[k] = 0 := by
                unfold wrongVal
                rw [← HC.out, if_neg (by omega), if_neg (by omega)]
              have HI2 := Lib.hid (items_bad HI.out hlt (nstep_other (r := r) (f := f) (b := s[k]) (by rw [← HC.out]; omega) (by rw [← HC.out]; exact c4)) hvb)
              clear hvb
              rcases (show c < 65 ∨ 90 < c by omega) with c7 | c7
              · clear c12
                obtain ⟨fn, tmps, assign, body, hy, hR⟩ := hY pre (0, k, true) (wr.alloc (.cells #[.int .i64 0, .int .i64 (k : Int), .bool true] 159)) (jto hJ hj (hb.alloc hb.size _)) ⟨[], by rw [HI2.out]; simp⟩
                dsimp only [encIt] at hy
                gi_wp2
                refine hR.mono ?_
                rintro e W' (⟨rfl, hJ', hk'⟩ | ⟨rfl, hJx'⟩)
                · have hcn := (hk'.row (Row.new wr _ _) (Or.inr rfl)).cell (i := 2) (v := .bool true) rfl
                  clear hy hR hk'
                  gi_wp2
                  refine bodyPost_ret (results_none rfl _ _ _) rfl ?_
                  exact ⟨⟨_, rfl⟩, .inl (by rw [HI2.out]; exact hJ')⟩
                · clear hy hR
                  gi_wp2
                  refine bodyPost_ret (results_none rfl _ _ _) rfl ?_
                  exact ⟨⟨_, rfl⟩, .inr ⟨_, hJx'⟩⟩
              · clear c12
                obtain ⟨fn, tmps, assign, body, hy, hR⟩ := hY pre (0, k, true) (wr.alloc (.cells #[.int .i64 0, .int .i64 (k : Int), .bool true] 159)) (jto hJ hj (hb.alloc hb.size _)) ⟨[], by rw [HI2.out]; simp⟩
                dsimp only [encIt] at hy
                gi_wp2
                refine hR.mono ?_
                rintro e W' (⟨rfl, hJ', hk'⟩ | ⟨rfl, hJx'⟩)
                · have hcn := (hk'.row (Row.new wr _ _) (Or.inr rfl)).cell (i := 2) (v := .bool true) rfl
                  clear hy hR hk'
                  gi_wp2
                  refine bodyPost_ret (results_none rfl _ _ _) rfl ?_
                  exact ⟨⟨_, rfl⟩, .inl (by rw [HI2.out]; exact hJ')⟩
                · clear hy hR
                  gi_wp2
                  refine bodyPost_ret (results_none rfl _ _ _) rfl ?_
                  exact ⟨⟨_, rfl⟩, .inr ⟨_, hJx'⟩⟩
    · obtain rfl : k = s.length := by omega
      by_cases hr0 : r = 0
      · subst hr0
        have HE := Lib.hid (items_end HI.out)
        gi_wp2
        go_end0
        refine ⟨⟨_, rfl⟩, .inl ?_⟩
        have := HE.out
        simp only [if_true, List.append_nil] at this
        rw [this]
        exact jto hJ hj hb
      · have HE := Lib.hid (items_end HI.out)
        obtain ⟨fn, tmps, assign, body, hy, hR⟩ := hY pre (0, s.length, true) wr (jto hJ hj hb) ⟨[], by rw [HE.out, if_neg hr0]; simp⟩
        dsimp only [encIt] at hy
        gi_wp2
        refine hR.mono ?_
        rintro e W' (⟨rfl, hJ', hk'⟩ | ⟨rfl, hJx'⟩)
        · clear hy hR hk'
          gi_wp2
          go_end0
          exact ⟨⟨_, rfl⟩, .inl (by rw [HE.out, if_neg hr0]; exact hJ')⟩
        · clear hy hR
          gi_wp2
          go_end0
          exact ⟨⟨_, rfl⟩, .inr ⟨_, hJx'⟩⟩
end Go.Proofs.Ytmiblmmjgoeahaa
