/- The labels of a compressed proof: both functions ask whether they are right. -/
import Derived.Test.YtmiblmmjgoeahaaTok2
import Derived.Test.YtmiblmmjgoeahaaStrFns
import Derived.Test.YtmiblmmjgoeahaaMapSet
import Derived.Test.YtmiblmmjgoeahaaNamesPlain
import Derived.Deep.QuietTactic
import Derived.BigQuiet
namespace Go.Proofs.Ytmiblmmjgoeahaa
open Go.RowKit
theorem label_short {s : List UInt8} (h : onlyS s [2]) : s.length ≤ maxLen := by have := h.2.1; unfold maxLen; omega
theorem names_any (w : World) (v : Value) (l : List (List UInt8)) (h : Strs w v l) :
    Calls Try.prog 86 #[v] w fun e w' => e = .returned (.bool (decide (namesS l))) ∧ Below w.heap.size w w' := by
  have h0 := h
  obtain ⟨A, c, rfl, hc, hm, hx⟩ := h.open_
  unfold maxLen at hm
  have hmm := @run_makeMap Try.prog
  go_enter Try.func86, Try.ntmps86
  go_wp2
  go_loopw [9] (fun i wr => ∃ k : Nat, k ≤ l.length ∧ i = .int .i64 k ∧ SetM wr w.heap.size (l.take k) ∧ namesS (l.take k) ∧ Below w.heap.size w wr) (fun i _ => l.length - (intOf i).toNat)
  case atStart => exact ⟨0, Nat.zero_le _, rfl, SetM.new w, by simp [namesS], new_ (Below.refl _ _) _⟩
  case round =>
    obtain ⟨k, hk, rfl, hset, hn, hb⟩ := hrel
    have HN := Lib.hid hn
    clear hn
    by_cases hlt : k < l.length
    · obtain ⟨y, hy⟩ : ∃ y, l[k]? = some y := ⟨_, List.getElem?_eq_getElem hlt⟩
      obtain ⟨b, o, rfl, g1⟩ := hx k y hy
      have g2 : wr.cell? ⟨b, o + k, none⟩ = some (.string ⟨y.toArray⟩) := (hb.cell (p := ⟨b, o + k, none⟩) (block_lt_of_cell g1)).trans g1
      have HY := Lib.hid hy
      clear hx hy g1
      by_cases hlab : onlyS y [2]
      · have e1 : decide (onlyS y [2]) = true := decide_eq_true hlab
        have HL := Lib.hid hlab
        clear hlab
        by_cases hin : y ∈ l.take k
        · have HI := Lib.hid hin
          clear hin
          go_wp2_with (go_at_call 133; refine (isLabel_any _ y).mono ?_; rintro e w1 ⟨rfl, hb1⟩; have hlook := (hset.below hb1).look y (label_short HL.out); rw [decide_eq_true HI.out] at hlook)
          go_ret
          exact ⟨ret_dec (namesS_bad2 HY.out HI.out), then_ hb hb1⟩
        · have HI := Lib.hid hin
          clear hin
          go_wp2_with (go_at_call 133; refine (isLabel_any _ y).mono ?_; rintro e w1 ⟨rfl, hb1⟩; have hlook := (hset.below hb1).look y (label_short HL.out); rw [decide_eq_false HI.out] at hlook; obtain ⟨w2, hput, hset2, hg2⟩ := (hset.below hb1).put y (label_short HL.out) (by unfold maxLen; simp; omega))
          go_roundw
          case rel => exact ⟨k + 1, by omega, by go_num, by rw [take_snoc HY.out]; exact hset2, namesS_snoc HY.out HN.out HL.out HI.out, (then_ hb hb1).grown hg2 (by have := hb.size; have := hb1.size; omega) (fun j ej => by cases ej; exact Nat.le_refl _)⟩
          case measure => simp [intOf]; omega
      · have e1 : decide (onlyS y [2]) = false := decide_eq_false hlab
        have HL := Lib.hid hlab
        clear hlab
        go_wp2_with (go_at_call 133; refine (isLabel_any _ y).mono ?_; rintro e w1 ⟨rfl, hb1⟩)
        go_ret
        exact ⟨ret_dec (namesS_bad1 HY.out HL.out), then_ hb hb1⟩
    · go_wp2
      go_ret
      exact ⟨ret_dec_t (namesS_all (by omega) HN.out), hb⟩
theorem ref_labels (w : World) (v : Value) (l : List (List UInt8)) (h : Strs w v l) (hsz : ∀ s ∈ l, s.length ≤ maxLen) :
    Calls Try.prog 89 #[v] w fun e w' => e = .returned (.bool (decide (namesS l))) ∧ ∃ n, w' = w.drewN n := by
  have h0 := h
  obtain ⟨A, c, rfl, hc, hm, hx⟩ := h.open_
  unfold maxLen at hm
  go_enter Try.func89, Try.ntmps89
  go_wp2
  go_loopw [3] (fun i wr => ∃ k n : Nat, k ≤ l.length ∧ i = .int .i64 k ∧ namesS (l.take k) ∧ wr = w.drewN n) (fun i _ => l.length - (intOf i).toNat)
  case atStart => exact ⟨0, 0, Nat.zero_le _, rfl, by simp [namesS], rfl⟩
  case round =>
    obtain ⟨k, n, hk, rfl, hn, hw⟩ := hrel
    have HN := Lib.hid hn
    have h1 : Strs wr (.slice A l.length c) l := by rw [hw]; exact h0.drewN n
    have HW := Lib.hid hw
    clear hn hw
    by_cases hlt : k < l.length
    · obtain ⟨y, hy⟩ : ∃ y, l[k]? = some y := ⟨_, List.getElem?_eq_getElem hlt⟩
      obtain ⟨b, o, rfl, g1⟩ := hx k y hy
      have g2 : wr.cell? ⟨b, o + k, none⟩ = some (.string ⟨y.toArray⟩) := by rw [HW.out]; exact g1
      have hys := hsz y (List.mem_of_getElem? hy)
      have hkz : (k : Int) ≤ (c : Int) := by omega
      have HY := Lib.hid hy
      clear hx hy hsz g1
      by_cases hlab : onlyS y [2]
      · have e1 : decide (onlyS y [2]) = true := decide_eq_true hlab
        have HL := Lib.hid hlab
        clear hlab
        by_cases hin : y ∈ l.take k
        · have HI := Lib.hid hin
          have e2 : decide (y ∈ l.take k) = true := decide_eq_true hin
          clear hin
          go_wp2
          go_quiet ((first | (go_at_call 136; exact Calls.quiet_of_same ((ref_isLabel _ y hys).mono fun _ _ h => ⟨h.1, h.2.symm⟩)) | (go_at_call 90; exact Calls.quiet_of_same ((has05 _ _ (l.take k) y ((h1.take hk).drewN _)).mono fun _ _ h => ⟨h.1, h.2.symm⟩))))
          go_wp2
          go_ret
          refine ⟨ret_dec (namesS_bad2 HY.out HI.out), _, by rw [HW.out, World.drewN_drewN]⟩
        · have HI := Lib.hid hin
          have e2 : decide (y ∈ l.take k) = false := decide_eq_false hin
          clear hin
          go_wp2
          go_quiet ((first | (go_at_call 136; exact Calls.quiet_of_same ((ref_isLabel _ y hys).mono fun _ _ h => ⟨h.1, h.2.symm⟩)) | (go_at_call 90; exact Calls.quiet_of_same ((has05 _ _ (l.take k) y ((h1.take hk).drewN _)).mono fun _ _ h => ⟨h.1, h.2.symm⟩))))
          go_wp2
          go_roundw
          case rel => exact ⟨k + 1, _, by omega, by go_num, namesS_snoc HY.out HN.out HL.out HI.out, by rw [HW.out, World.drewN_drewN]⟩
          case measure => simp [intOf]; omega
      · have e1 : decide (onlyS y [2]) = false := decide_eq_false hlab
        have HL := Lib.hid hlab
        clear hlab
        go_wp2
        go_quiet ((first | (go_at_call 136; exact Calls.quiet_of_same ((ref_isLabel _ y hys).mono fun _ _ h => ⟨h.1, h.2.symm⟩)) | (go_at_call 90; exact Calls.quiet_of_same ((has05 _ _ (l.take k) y ((h1.take hk).drewN _)).mono fun _ _ h => ⟨h.1, h.2.symm⟩))))
        go_wp2
        go_ret
        refine ⟨ret_dec (namesS_bad1 HY.out HL.out), _, by rw [HW.out, World.drewN_drewN]⟩
    · go_wp2
      go_ret
      exact ⟨ret_dec_t (namesS_all (by omega) HN.out), n, HW.out⟩
end Go.Proofs.Ytmiblmmjgoeahaa
