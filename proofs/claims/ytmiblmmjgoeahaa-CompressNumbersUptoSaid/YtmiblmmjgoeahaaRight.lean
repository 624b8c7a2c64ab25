/- The numbers of a compressed proof: both functions ask whether they are right. -/
import Derived.Test.YtmiblmmjgoeahaaBase2
import Derived.Test.YtmiblmmjgoeahaaNamesPlain
namespace Go.Proofs.Ytmiblmmjgoeahaa
open Go.RowKit
/-- a slice of ints, opened -/
theorem Ints.open_ {w : World} {v : Value} {l : List Int} (h : Ints w v l) : ∃ A c, v = .slice A l.length c ∧ l.length ≤ c ∧ l.length ≤ maxLen ∧
    (∀ (k : Nat) (n : Int), l[k]? = some n → ∃ b o, A = some ⟨b, o, none⟩ ∧ (∀ (j : Nat) (m : Int), l[j]? = some m → w.cell? ⟨b, o + j, none⟩ = some (.int .i64 m))) := by
  obtain ⟨A, c, hv, hc, hm, hl, hr⟩ := h
  refine ⟨A, c, hv, hc, hm, fun k n hk => ?_⟩
  have hk0 : k < l.length := (List.getElem?_eq_some_iff.1 hk).1
  obtain ⟨b, o, ha, hx⟩ := hr (by omega)
  exact ⟨b, o, ha, fun j m hj => hx j _ (by rw [List.getElem?_map, hj]; rfl)⟩
/-- the first k numbers are right -/
def RightTo (l : List Int) (k : Nat) : Prop := ∀ j n, j < k → l[j]? = some n → okNum (if j = 0 then none else l[j - 1]?) n
theorem rightTo_all {l : List Int} {k : Nat} (hk : l.length ≤ k) (h : RightTo l k) : rightS none l := by
  rw [rightS_iff]
  intro j n hj
  exact h j n (by have := (List.getElem?_eq_some_iff.1 hj).1; omega) hj
theorem rightTo_bad {l : List Int} {k : Nat} {n : Int} (hn : l[k]? = some n) (h : ¬ okNum (if k = 0 then none else l[k - 1]?) n) : ¬ rightS none l := by
  rw [rightS_iff]
  exact fun hr => h (hr k n hn)
theorem rightTo_step {l : List Int} {k : Nat} {n : Int} (hn : l[k]? = some n) (h : RightTo l k) (hk : okNum (if k = 0 then none else l[k - 1]?) n) : RightTo l (k + 1) := by
  intro j m hj hm
  by_cases e : j = k
  · subst e
    rw [hn] at hm
    cases hm
    exact hk
  · exact h j m (by omega) hm
set_option maxRecDepth 20000 in
set_option maxHeartbeats 1000000 in
theorem right_any (w : World) (v : Value) (l : List Int) (h : Ints w v l) :
    Calls Try.prog 88 #[v] w fun e w' => e = .returned (.bool (decide (rightS none l))) ∧ w = w' := by
  obtain ⟨A, c, rfl, hc, hm, hx⟩ := h.open_
  unfold maxLen at hm
  go_enter Try.func88, Try.ntmps88
  go_wp2
  go_loop [7] (fun i => ∃ k : Nat, k ≤ l.length ∧ i = .int .i64 k ∧ RightTo l k) (fun i => l.length - (intOf i).toNat)
  case atStart => exact ⟨0, Nat.zero_le _, rfl, fun j n hj => by omega⟩
  case round =>
    obtain ⟨k, hk, rfl, hn⟩ := hrel
    have HN := Lib.hid hn
    clear hn
    by_cases hlt : k < l.length
    · obtain ⟨n, hy⟩ : ∃ y, l[k]? = some y := ⟨_, List.getElem?_eq_getElem hlt⟩
      obtain ⟨b, o, rfl, hz⟩ := hx k n hy
      clear hx h
      have g1 := hz k n hy
      have HY := Lib.hid hy
      by_cases t1 : n < -1
      · have e1 : decide (n < -1) = true := by simpa using t1
        have HB := Lib.hid (rightTo_bad hy (fun h => by have := h.1; omega))
        clear hz hy t1
        go_wp2
        go_ret
        exact ⟨ret_dec HB.out, rfl⟩
      · have e1 : decide (n < -1) = false := by simpa using t1
        by_cases t2 : 1000000 < n
        · have e2 : decide (1000000 < n) = true := by simpa using t2
          have HB := Lib.hid (rightTo_bad hy (fun h => by have := h.2.1; omega))
          clear hz hy t1 t2
          go_wp2
          go_ret
          exact ⟨ret_dec HB.out, rfl⟩
        · have e2 : decide (1000000 < n) = false := by simpa using t2
          by_cases t3 : n = 0
          · subst t3
            clear e1 e2
            by_cases t4 : k = 0
            · subst t4
              simp only [Nat.add_zero] at g1
              have HB := Lib.hid (rightTo_bad hy (fun h => by obtain ⟨m, hm, _⟩ := h.2.2 rfl; simp at hm))
              clear hz hy t1 t2
              go_wp2
              go_ret
              exact ⟨ret_dec HB.out, rfl⟩
            · obtain ⟨j, rfl⟩ : ∃ j, k = j + 1 := ⟨k - 1, by omega⟩
              obtain ⟨p, hp⟩ : ∃ y, l[j]? = some y := ⟨_, List.getElem?_eq_getElem (by omega)⟩
              have g2 := hz j p hp
              have e4 : ((((j + 1 : Nat) : Int)) == 0) = false := by simp; omega
              by_cases t5 : p < 1
              · have e5 : decide (p < 1) = true := by simpa using t5
                have HB := Lib.hid (rightTo_bad hy (fun h => by obtain ⟨m, hm, h1⟩ := h.2.2 rfl; simp [hp] at hm; omega))
                clear hz hy t1 t2 t4 t5 hp
                go_wp2
                go_ret
                exact ⟨ret_dec HB.out, rfl⟩
              · have e5 : decide (p < 1) = false := by simpa using t5
                have HB := Lib.hid (rightTo_step hy HN.out ⟨by omega, by omega, fun _ => ⟨p, by simp [hp], by omega⟩⟩)
                clear hz hy t1 t2 t4 t5 hp
                go_wp2
                go_round
                case rel => exact ⟨j + 1 + 1, by omega, by go_num, HB.out⟩
                case measure => simp [intOf]; omega
          · have e3 : (n == 0) = false := by simpa using t3
            have HB := Lib.hid (rightTo_step hy HN.out ⟨by omega, by omega, fun h => absurd h t3⟩)
            clear hz hy t1 t2 t3
            go_wp2
            go_round
            case rel => exact ⟨k + 1, by omega, by go_num, HB.out⟩
            case measure => simp [intOf]; omega
    · go_wp2
      go_ret
      exact ⟨ret_dec_t (rightTo_all (by omega) HN.out), rfl⟩
set_option maxRecDepth 20000 in
set_option maxHeartbeats 1000000 in
theorem ref_right (w : World) (v : Value) (l : List Int) (h : Ints w v l) :
    Calls Try.prog 91 #[v] w fun e w' => e = .returned (.bool (decide (rightS none l))) ∧ w = w' := by
  obtain ⟨A, c, rfl, hc, hm, hx⟩ := h.open_
  unfold maxLen at hm
  go_enter Try.func91, Try.ntmps91
  go_wp2
  go_loop [3] (fun i => ∃ k : Nat, k ≤ l.length ∧ i = .int .i64 k ∧ RightTo l k) (fun i => l.length - (intOf i).toNat)
  case atStart => exact ⟨0, Nat.zero_le _, rfl, fun j n hj => by omega⟩
  case round =>
    obtain ⟨k, hk, rfl, hn⟩ := hrel
    have HN := Lib.hid hn
    clear hn
    by_cases hlt : k < l.length
    · obtain ⟨n, hy⟩ : ∃ y, l[k]? = some y := ⟨_, List.getElem?_eq_getElem hlt⟩
      obtain ⟨b, o, rfl, hz⟩ := hx k n hy
      clear hx h
      have g1 := hz k n hy
      have HY := Lib.hid hy
      by_cases t1 : n < -1
      · have e1 : decide (n < -1) = true := by simpa using t1
        have HB := Lib.hid (rightTo_bad hy (fun h => by have := h.1; omega))
        clear hz hy t1
        go_wp2
        go_ret
        exact ⟨ret_dec HB.out, rfl⟩
      · have e1 : decide (n < -1) = false := by simpa using t1
        by_cases t2 : 1000000 < n
        · have e2 : decide (1000000 < n) = true := by simpa using t2
          have HB := Lib.hid (rightTo_bad hy (fun h => by have := h.2.1; omega))
          clear hz hy t1 t2
          go_wp2
          go_ret
          exact ⟨ret_dec HB.out, rfl⟩
        · have e2 : decide (1000000 < n) = false := by simpa using t2
          by_cases t3 : n = 0
          · subst t3
            clear e1 e2
            by_cases t4 : k = 0
            · subst t4
              simp only [Nat.add_zero] at g1
              have HB := Lib.hid (rightTo_bad hy (fun h => by obtain ⟨m, hm, _⟩ := h.2.2 rfl; simp at hm))
              clear hz hy t1 t2
              go_wp2
              go_ret
              exact ⟨ret_dec HB.out, rfl⟩
            · obtain ⟨j, rfl⟩ : ∃ j, k = j + 1 := ⟨k - 1, by omega⟩
              obtain ⟨p, hp⟩ : ∃ y, l[j]? = some y := ⟨_, List.getElem?_eq_getElem (by omega)⟩
              have g2 := hz j p hp
              have e4 : ((((j + 1 : Nat) : Int)) == 0) = false := by simp; omega
              by_cases t5 : p ≤ 0
              · have e5 : decide (p ≤ 0) = true := by simpa using t5
                have HB := Lib.hid (rightTo_bad hy (fun h => by obtain ⟨m, hm, h1⟩ := h.2.2 rfl; simp [hp] at hm; omega))
                clear hz hy t1 t2 t4 t5 hp
                go_wp2
                go_ret
                exact ⟨ret_dec HB.out, rfl⟩
              · have e5 : decide (p ≤ 0) = false := by simpa using t5
                have HB := Lib.hid (rightTo_step hy HN.out ⟨by omega, by omega, fun _ => ⟨p, by simp [hp], by omega⟩⟩)
                clear hz hy t1 t2 t4 t5 hp
                go_wp2
                go_round
                case rel => exact ⟨j + 1 + 1, by omega, by go_num, HB.out⟩
                case measure => simp [intOf]; omega
          · have e3 : (n == 0) = false := by simpa using t3
            have HB := Lib.hid (rightTo_step hy HN.out ⟨by omega, by omega, fun h => absurd h t3⟩)
            clear hz hy t1 t2 t3
            go_wp2
            go_round
            case rel => exact ⟨k + 1, by omega, by go_num, HB.out⟩
            case measure => simp [intOf]; omega
    · go_wp2
      go_ret
      exact ⟨ret_dec_t (rightTo_all (by omega) HN.out), rfl⟩
end Go.Proofs.Ytmiblmmjgoeahaa
