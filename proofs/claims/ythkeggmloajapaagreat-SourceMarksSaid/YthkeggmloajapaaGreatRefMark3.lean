/- Whether a mark may stand behind another one, by the reference. -/
import Derived.Test.YthkeggmloajapaaGreatRefMark1
namespace Go.Proofs.YthkeggmloajapaaGreat
open Go.RowKit
theorem within_tick (s : List UInt8) : s.any (withinP false [96]) = s.any (· == 96) := by
  congr 1
  funext b
  simp [withinP]
theorem within_sp (s : List UInt8) : s.any (withinP true []) = s.any sp := by
  congr 1
  funext b
  simp [withinP]
theorem within_cite (s : List UInt8) : (!s.any (withinP true [91, 93])) = s.all citeP := by
  rw [List.all_eq_not_any_not]
  congr 2
  funext b
  unfold withinP citeP
  simp only [Bool.true_and, List.any_cons, List.any_nil, Bool.or_false, bne]
  cases sp b <;> cases (b == 91) <;> cases (b == 93) <;> rfl
set_option maxRecDepth 100000 in
set_option maxHeartbeats 4000000 in
theorem ref_formed (w : World) (mk pk : Int) (mt pt : List UInt8) (hl : mt.length ≤ 1000000) :
    Calls Tryz.prog 24 #[.agg #[.int .i64 mk, .string ⟨mt.toArray⟩], .agg #[.int .i64 pk, .string ⟨pt.toArray⟩]] w fun e w' => e = .returned (.bool (formM (mk, mt) && fitM (pk, pt) (mk, mt))) ∧ Below w.heap.size w w' := by
  obtain ⟨R, hR⟩ : ∃ R, (formM (mk, mt) && fitM (pk, pt) (mk, mt)) = R := ⟨_, rfl⟩
  rw [hR]
  cases mt with
  | nil =>
    have HR : Hid (R = false) := Lib.hid (by rw [← hR]; rfl)
    clear hR
    go_enter Tryz.func24, Tryz.ntmps24
    go_wp2
    go_ret
    rw [HR.out]
    exact ⟨rfl, new_ (new_ (Below.refl _ _) _) _⟩
  | cons c t =>
    obtain ⟨a1, e1⟩ : ∃ q, (mk == 1) = q := ⟨_, rfl⟩
    obtain ⟨a2, e2⟩ : ∃ q, (pk == 1) = q := ⟨_, rfl⟩
    obtain ⟨a3, e3⟩ : ∃ q, (pk == 3) = q := ⟨_, rfl⟩
    obtain ⟨a4, e4⟩ : ∃ q, sp c = q := ⟨_, rfl⟩
    have e1' : (mk != 1) = !a1 := by rw [bne, e1]
    have hfi : fitM (pk, pt) (mk, c :: t) = (!(a1 && a2) && !(a3 && (!a1 || !a4))) := by unfold fitM; simp [bne, ← e1, ← e2, ← e3, ← e4]
    have hfm : formM (mk, c :: t) = (if mk = 1 then true else if mk = 2 then !(c :: t).any (withinP false [96]) else if mk = 3 then !(c :: t).any (withinP true []) else if mk = 4 then !(c :: t).any (withinP true [91, 93]) else false) := by
      rw [within_tick, within_sp, within_cite]
      unfold formM
      simp only [List.isEmpty_cons, Bool.not_false, Bool.true_and]
    rw [hfi] at hR
    have HL : Hid ((c :: t).length ≤ 1000000) := Lib.hid hl
    clear hl hfi
    have hways : ((a1 = true ∧ a2 = false ∧ a3 = false) ∨ (a1 = true ∧ a2 = false ∧ a3 = true ∧ a4 = true)) ∨ (a1 = false ∧ a3 = false) ∨
        ((a1 = false ∧ a3 = true) ∨ (a1 = true ∧ a2 = true) ∨ (a1 = true ∧ a2 = false ∧ a3 = true ∧ a4 = false)) := by
      cases a1 <;> cases a2 <;> cases a3 <;> cases a4 <;> simp
    rcases hways with hway | ⟨rfl, rfl⟩ | hway
    · have hmk : mk = 1 := by rcases hway with ⟨rfl, -⟩ | ⟨rfl, -⟩ <;> simpa using e1
      have HR : Hid (R = true) := Lib.hid (by
        rw [← hR, hfm, if_pos hmk]
        rcases hway with ⟨rfl, rfl, rfl⟩ | ⟨rfl, rfl, rfl, rfl⟩ <;> rfl)
      clear hR hfm
      subst hmk
      rcases hway with ⟨rfl, rfl, rfl⟩ | ⟨rfl, rfl, rfl, rfl⟩
      all_goals
        go_enter Tryz.func24, Tryz.ntmps24
        go_wp2_with (go_at_call 17; (refine (ref_sp _ c _ rfl).mono ?_; rw [e4]; rintro e w4 ⟨rfl, rfl⟩))
        go_ret
        rw [HR.out]
        exact ⟨rfl, new_ (new_ (Below.refl _ _) _) _⟩
    · have h1 : mk ≠ 1 := by simpa using e1
      rw [if_neg h1] at hfm
      rw [hfm] at hR
      clear hfm
      by_cases h2 : mk = 2
      · subst h2
        obtain ⟨q, hq⟩ : ∃ q, (c :: t).any (withinP false [96]) = q := ⟨_, rfl⟩
        have HQ := Lib.hid hq
        have HR : Hid (R = !q) := Lib.hid (by rw [← hR, if_pos rfl, hq]; simp)
        clear hq
        clear hR
        go_enter Tryz.func24, Tryz.ntmps24
        go_wp2_with (go_at_call 33; (refine (ref_within _ (c :: t) [96] false HL.out (by decide)).mono ?_; rw [HQ.out]; rintro e w4 ⟨rfl, hb4⟩; have HB4 := Lib.hid (then_ (new_ (new_ (Below.refl w.heap.size w) _) _) hb4); clear hb4))
        go_ret
        rw [HR.out]
        exact ⟨rfl, HB4.out⟩
      · rw [if_neg h2] at hR
        by_cases h3 : mk = 3
        · subst h3
          obtain ⟨q, hq⟩ : ∃ q, (c :: t).any (withinP true []) = q := ⟨_, rfl⟩
          have HQ := Lib.hid hq
          have HR : Hid (R = !q) := Lib.hid (by rw [← hR, if_pos rfl, hq]; simp)
          clear hq
          clear hR
          go_enter Tryz.func24, Tryz.ntmps24
          go_wp2_with (go_at_call 33; (refine (ref_within _ (c :: t) [] true HL.out (by decide)).mono ?_; rw [HQ.out]; rintro e w4 ⟨rfl, hb4⟩; have HB4 := Lib.hid (then_ (new_ (new_ (Below.refl w.heap.size w) _) _) hb4); clear hb4))
          go_ret
          rw [HR.out]
          exact ⟨rfl, HB4.out⟩
        · rw [if_neg h3] at hR
          by_cases h4 : mk = 4
          · subst h4
            obtain ⟨q, hq⟩ : ∃ q, (c :: t).any (withinP true [91, 93]) = q := ⟨_, rfl⟩
            have HQ := Lib.hid hq
            have HR : Hid (R = !q) := Lib.hid (by rw [← hR, if_pos rfl, hq]; simp)
            clear hq
            clear hR
            go_enter Tryz.func24, Tryz.ntmps24
            go_wp2_with (go_at_call 33; (refine (ref_within _ (c :: t) [91, 93] true HL.out (by decide)).mono ?_; rw [HQ.out]; rintro e w4 ⟨rfl, hb4⟩; have HB4 := Lib.hid (then_ (new_ (new_ (Below.refl w.heap.size w) _) _) hb4); clear hb4))
            go_ret
            rw [HR.out]
            exact ⟨rfl, HB4.out⟩
          · have HR : Hid (R = false) := Lib.hid (by rw [← hR, if_neg h4]; rfl)
            have f2 : (mk == 2) = false := by simpa using h2
            have f3 : (mk == 3) = false := by simpa using h3
            have f4 : (mk == 4) = false := by simpa using h4
            clear hR h1 h2 h3 h4
            go_enter Tryz.func24, Tryz.ntmps24
            go_wp2
            go_ret
            rw [HR.out]
            exact ⟨rfl, new_ (new_ (Below.refl _ _) _) _⟩
    · have HR : Hid (R = false) := Lib.hid (by
        rw [← hR]
        rcases hway with ⟨rfl, rfl⟩ | ⟨rfl, rfl⟩ | ⟨rfl, rfl, rfl, rfl⟩ <;> simp)
      clear hR hfm
      rcases hway with ⟨rfl, rfl⟩ | ⟨rfl, rfl⟩ | ⟨rfl, rfl, rfl, rfl⟩
      all_goals
        go_enter Tryz.func24, Tryz.ntmps24
        go_wp2_with (go_at_call 17; (refine (ref_sp _ c _ rfl).mono ?_; rw [e4]; rintro e w4 ⟨rfl, rfl⟩))
        go_ret
        rw [HR.out]
        exact ⟨rfl, new_ (new_ (Below.refl _ _) _) _⟩
end Go.Proofs.YthkeggmloajapaaGreat
