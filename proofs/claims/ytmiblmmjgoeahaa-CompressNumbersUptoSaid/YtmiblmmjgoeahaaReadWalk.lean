/- Is and Read of the program. -/
import Derived.Test.YtmiblmmjgoeahaaReadPlain
import Derived.Test.YtmiblmmjgoeahaaNames
import Derived.Test.YtmiblmmjgoeahaaNumWalk
import Derived.Test.YtmiblmmjgoeahaaStrMore
import Derived.Handy
namespace Go.Proofs.Ytmiblmmjgoeahaa
open Go.RowKit
theorem is_any (w : World) (v : Value) (p : List (List UInt8)) (h : Strs w v p) :
    Calls Try.prog 45 #[v] w fun e w' => e = .returned (.bool (decide (isS p))) ∧ w = w' := by
  obtain ⟨A, c, rfl, hc, hm, hx⟩ := h.open_
  unfold maxLen at hm
  cases p with
  | nil =>
    clear hx h
    go_enter Try.func45, Try.ntmps45
    go_wp2
    go_ret
    exact ⟨ret_dec (by simp [isS]), rfl⟩
  | cons s r =>
    obtain ⟨b, o, rfl, g1⟩ := hx 0 s rfl
    rw [Nat.add_zero] at g1
    have hp : 0 < (s :: r).length := by simp
    clear hx h
    generalize hn : (s :: r).length = n at *
    have HN := Lib.hid hn
    clear hn
    by_cases he : s = [40]
    · have t1 : (s == [40]) = true := by simpa using he
      have HE := Lib.hid he
      clear he
      go_enter Try.func45, Try.ntmps45
      go_wp2
      go_ret
      exact ⟨ret_dec_t (by simpa [isS] using HE.out), rfl⟩
    · have t1 : (s == [40]) = false := by simpa using he
      have HE := Lib.hid he
      clear he
      go_enter Try.func45, Try.ntmps45
      go_wp2
      go_ret
      exact ⟨ret_dec (by simpa [isS] using HE.out), rfl⟩
theorem indexI_neg {α : Type} [DecidableEq α] {l : List α} {x : α} (h : x ∉ l) : indexI l x = -1 := by simp [indexI, h]
theorem set2_cells {w : World} {g : Nat} {t : TypeId} {a0 b0 : Value} (hr : Row w g t #[a0, b0]) (a b : Value) :
    (w.setCell ⟨g, 0, none⟩ a).cell? ⟨g, 0, none⟩ = some a ∧ ((w.setCell ⟨g, 0, none⟩ a).setCell ⟨g, 1, none⟩ b).cell? ⟨g, 1, none⟩ = some b := by
  have h1 : Row (w.setCell ⟨g, 0, none⟩ a) g t #[a, b0] := hr.set 0 _
  have h2 : Row ((w.setCell ⟨g, 0, none⟩ a).setCell ⟨g, 1, none⟩ b) g t #[a, b] := h1.set 1 _
  exact ⟨h1.cell rfl, h2.cell rfl⟩
set_option maxRecDepth 20000 in
set_option maxHeartbeats 1000000 in
theorem read_any (w : World) (v : Value) (p : List (List UInt8)) (h : Strs w v p) (hs : p.flatten.length ≤ 1048576) (hN : p.length ≤ 1048576) :
    Calls Try.prog 41 #[v] w fun e w' => ∃ v1 v2, e = .returned (.tuple #[.agg #[v1, v2], .int .i64 (readS p).2]) ∧ Strs w' v1 (readS p).1.1 ∧ Ints w' v2 (readS p).1.2 ∧ Below w.heap.size w w' := by
  have h0 := h
  obtain ⟨A, c, rfl, hc, hm, hx⟩ := h.open_
  unfold maxLen at hm
  by_cases h1 : isS p
  · have e1 : decide (isS p) = true := decide_eq_true h1
    by_cases h2 : [41] ∈ p
    · obtain ⟨hi, hk1, hk2⟩ := cut_pos h1 h2
      obtain ⟨b, o, rfl, _⟩ := hx 0 p[0] (List.getElem?_eq_getElem (by omega))
      obtain ⟨k, hk⟩ : ∃ k, k = cutS p := ⟨_, rfl⟩
      have hC := Strs.cut_if h0 hk1 (by omega)
      rw [show (p.take (cutS p)).drop 1 = labS p from rfl] at hC
      have hP := Strs.cut h0 hk1 (by omega)
      rw [show (p.take (cutS p)).drop 1 = labS p from rfl] at hP
      have hD := Strs.cut_if h0 (show cutS p + 1 ≤ p.length by omega) (Nat.le_refl _)
      rw [List.take_length] at hD
      have hF : (p.drop (cutS p + 1)).flatten.length ≤ 140737488355328 := by have := letS_le p; rw [letS] at this; omega
      rw [← hk] at hi hk1 hk2 hC hD hF hP
      have HP := Lib.hid hP
      have HC := Lib.hid hC
      have HD := Lib.hid hD
      have HF := Lib.hid hF
      have HE : Hid ((p.drop (k + 1)).flatten = letS p) := Lib.hid (by rw [hk]; rfl)
      have HK := Lib.hid hk
      have HI := Lib.hid hi
      have hM : (labS p).length * 16 ≤ 140737488355328 := by simp [labS]; omega
      have HM := Lib.hid hM
      clear hM
      by_cases h3 : namesS (labS p)
      · have e3 : decide (namesS (labS p)) = true := decide_eq_true h3
        by_cases h4 : (numbersS (letS p)).2.2 = 0
        · have e4 : ((numbersS (letS p)).2.2 != 0) = false := by simpa using h4
          have HS := Lib.hid (readS_ok h1 h2 h3 h4)
          clear hx h h1 h2 h3 h4 hk hi hC hD hF hP
          go_enter Try.func41, Try.ntmps41
          go_wp2_with (first | (go_at_call 45; refine (is_any _ _ p (h0.alloc _)).mono ?_; rintro e w1 ⟨rfl, rfl⟩) | (go_at_call 97; refine (index_str _ _ p [41] (h0.alloc _)).mono ?_; rw [HI.out]; rintro e w1 ⟨rfl, rfl⟩) | (go_at_call 86; refine (names_any _ _ (labS p) (HC.out.alloc _)).mono ?_; rintro e w2 ⟨rfl, hb2⟩; have hr2 := (Row.new w 37 #[.slice none 0 0, .slice none 0 0]).below hb2 (by simp); have q0 := hr2.cell (i := 0) (v := .slice none 0 0) rfl; have q1 := hr2.cell (i := 1) (v := .slice none 0 0) rfl; have f0 := hr2.free 0; have f1 := hr2.free 1) | (go_at_call 39; refine (join_any _ _ _ ((HD.out.alloc _).below hb2) HF.out (by simp; omega)).mono ?_; rw [HE.out]; rintro e w3 ⟨rfl, hb3⟩; have hr3 := hr2.below hb3 (by have := hb2.size; simp at this; omega); clear q0 q1 f0 f1) | (go_at_call 20; refine (numbers_any (letS p) _).mono ?_; rintro e w4 ⟨v4, rfl, hv4, hb4⟩; obtain ⟨a4, c4, rfl⟩ := hv4.form; have hr4 := hr3.below hb4 hr3.lt; have q0 := hr4.cell (i := 0) (v := .slice none 0 0) rfl; have q1 := hr4.cell (i := 1) (v := .slice none 0 0) rfl; have f0 := hr4.free 0; have f1 := hr4.free 1) | (go_at_call 73; refine (clone_any _ _ (labS p) ((((HP.out.alloc _).below hb2).below hb3).below hb4) HM.out).mono ?_; rintro e w5 ⟨v5, rfl, hv5, hb5⟩; obtain ⟨a5, c5, rfl⟩ := hv5.form; have hr5 := hr4.below hb5 hr4.lt; clear q0 q1 f0 f1; have q0 := hr5.cell (i := 0) (v := .slice none 0 0) rfl; have q1 := hr5.cell (i := 1) (v := .slice none 0 0) rfl; have f0 := hr5.free 0; have f1 := hr5.free 1))
          all_goals have hr6 : Row (w5.setCell ⟨w.heap.size, 0, none⟩ (.slice a5 (labS p).length c5)) w.heap.size 37 #[.slice a5 (labS p).length c5, .slice none 0 0] := hr5.set 0 _
          all_goals have hr7 : Row ((w5.setCell ⟨w.heap.size, 0, none⟩ (.slice a5 (labS p).length c5)).setCell ⟨w.heap.size, 1, none⟩ (.slice a4 (numbersS (letS p)).1.length c4)) w.heap.size 37 #[.slice a5 (labS p).length c5, .slice a4 (numbersS (letS p)).1.length c4] := hr6.set 1 _
          all_goals have u0 := hr6.cell (i := 0) (v := .slice a5 (labS p).length c5) rfl
          all_goals have u1 := hr7.cell (i := 1) (v := .slice a4 (numbersS (letS p)).1.length c4) rfl
          all_goals refine bodyPost_ret (v := .tuple #[.agg #[.slice a5 (labS p).length c5, .slice a4 (numbersS (letS p)).1.length c4], .int .i64 0]) (by simp [results, Try.results41, go_sem, u0, u1]) rfl ?_
          all_goals rw [HS.out]
          all_goals exact ⟨_, _, rfl, (hv5.set2 hr5 _).set2 hr6 _, (Ints.set2 (hv4.below hb5) hr5 _).set2 hr6 _, ((then_ (then_ (then_ (then_ (new_ (Below.refl _ _) _) hb2) hb3) hb4) hb5).setCell (by simp) _).setCell (by simp) _⟩
        · have e4 : ((numbersS (letS p)).2.2 != 0) = true := by simpa using h4
          have HS := Lib.hid (readS_bad h1 h2 h3 h4)
          clear hx h h1 h2 h3 h4 hk hi hC hD hF hP
          go_enter Try.func41, Try.ntmps41
          go_wp2_with (first | (go_at_call 45; refine (is_any _ _ p (h0.alloc _)).mono ?_; rintro e w1 ⟨rfl, rfl⟩) | (go_at_call 97; refine (index_str _ _ p [41] (h0.alloc _)).mono ?_; rw [HI.out]; rintro e w1 ⟨rfl, rfl⟩) | (go_at_call 86; refine (names_any _ _ (labS p) (HC.out.alloc _)).mono ?_; rintro e w2 ⟨rfl, hb2⟩; have hr2 := (Row.new w 37 #[.slice none 0 0, .slice none 0 0]).below hb2 (by simp); have q0 := hr2.cell (i := 0) (v := .slice none 0 0) rfl; have q1 := hr2.cell (i := 1) (v := .slice none 0 0) rfl; have f0 := hr2.free 0; have f1 := hr2.free 1) | (go_at_call 39; refine (join_any _ _ _ ((HD.out.alloc _).below hb2) HF.out (by simp; omega)).mono ?_; rw [HE.out]; rintro e w3 ⟨rfl, hb3⟩; have hr3 := hr2.below hb3 (by have := hb2.size; simp at this; omega); clear q0 q1 f0 f1) | (go_at_call 20; refine (numbers_any (letS p) _).mono ?_; rintro e w4 ⟨v4, rfl, hv4, hb4⟩; obtain ⟨a4, c4, rfl⟩ := hv4.form; have hr4 := hr3.below hb4 hr3.lt; have q0 := hr4.cell (i := 0) (v := .slice none 0 0) rfl; have q1 := hr4.cell (i := 1) (v := .slice none 0 0) rfl; have f0 := hr4.free 0; have f1 := hr4.free 1))
          all_goals obtain ⟨u0, u1⟩ := set2_cells hr4 (.slice none 0 0) (.slice none 0 0)
          all_goals refine bodyPost_ret (v := .tuple #[.agg #[.slice none 0 0, .slice none 0 0], .int .i64 (numbersS (letS p)).2.2]) (by simp [results, Try.results41, go_sem, u0, u1]) rfl ?_
          all_goals rw [HS.out]
          all_goals exact ⟨_, _, rfl, Rds.nil_, Rds.nil_, (((then_ (then_ (then_ (new_ (Below.refl _ _) _) hb2) hb3) hb4).setCell (by simp) _).setCell (by simp) _)⟩
      · have e3 : decide (namesS (labS p)) = false := decide_eq_false h3
        have HS := Lib.hid (readS_no (p := p) (fun ⟨_, _, hh⟩ => h3 hh))
        clear hx h h1 h2 h3 hk hi hC hD hF hP
        go_enter Try.func41, Try.ntmps41
        go_wp2_with (first | (go_at_call 45; refine (is_any _ _ p (h0.alloc _)).mono ?_; rintro e w1 ⟨rfl, rfl⟩) | (go_at_call 97; refine (index_str _ _ p [41] (h0.alloc _)).mono ?_; rw [HI.out]; rintro e w1 ⟨rfl, rfl⟩) | (go_at_call 86; refine (names_any _ _ (labS p) (HC.out.alloc _)).mono ?_; rintro e w2 ⟨rfl, hb2⟩; have hr2 := (Row.new w 37 #[.slice none 0 0, .slice none 0 0]).below hb2 (by simp); have q0 := hr2.cell (i := 0) (v := .slice none 0 0) rfl; have q1 := hr2.cell (i := 1) (v := .slice none 0 0) rfl; have f0 := hr2.free 0; have f1 := hr2.free 1))
        obtain ⟨u0, u1⟩ := set2_cells hr2 (.slice none 0 0) (.slice none 0 0)
        refine bodyPost_ret (v := .tuple #[.agg #[.slice none 0 0, .slice none 0 0], .int .i64 20]) (by simp [results, Try.results41, go_sem, u0, u1]) rfl ?_
        rw [HS.out]
        exact ⟨_, _, rfl, Rds.nil_, Rds.nil_, ((then_ (new_ (Below.refl _ _) _) hb2).setCell (by simp) _).setCell (by simp) _⟩
    · have hi := indexI_neg h2
      have HI := Lib.hid hi
      have HS := Lib.hid (readS_no (p := p) (fun ⟨_, hh, _⟩ => h2 hh))
      clear hx h h1 h2 hi
      go_enter Try.func41, Try.ntmps41
      go_wp2_with (first | (go_at_call 45; refine (is_any _ _ p (h0.alloc _)).mono ?_; rintro e w1 ⟨rfl, rfl⟩) | (go_at_call 97; refine (index_str _ _ p [41] (h0.alloc _)).mono ?_; rw [HI.out]; rintro e w1 ⟨rfl, rfl⟩))
      go_returns
      rw [HS.out]
      exact ⟨_, _, rfl, Rds.nil_, Rds.nil_, new_ (Below.refl _ _) _⟩
  · have e1 : decide (isS p) = false := decide_eq_false h1
    have HS := Lib.hid (readS_no (p := p) (fun ⟨hh, _⟩ => h1 hh))
    clear hx h h1
    go_enter Try.func41, Try.ntmps41
    go_wp2_with (go_at_call 45; refine (is_any _ _ p (h0.alloc _)).mono ?_; rintro e w1 ⟨rfl, rfl⟩)
    go_returns
    rw [HS.out]
    exact ⟨_, _, rfl, Rds.nil_, Rds.nil_, new_ (Below.refl _ _) _⟩
end Go.Proofs.Ytmiblmmjgoeahaa
