/- Has, Index, Contains on lists of strings. -/
import Derived.Test.YtignhjfobcnloaaBase2
import Derived.Test.YtignhjfobcnloaaTokPlain
import Derived.RegionTactic
namespace Go.Proofs.Ytignhjfobcnloaa
open Go.RowKit
theorem Rds.take {w : World} {A : Option Addr} {n c k : Nat} {xs : List Value} (h : Rds w 1 (.slice A n c) n xs) (hk : k ≤ n) : Rds w 1 (.slice A k c) k (xs.take k) := by
  obtain ⟨A', c', hv, hc, hm, hl, hr⟩ := h
  obtain ⟨rfl, _, rfl⟩ := (by simpa using hv : A = A' ∧ True ∧ c = c')
  refine ⟨A, c, rfl, by omega, by omega, by simp; omega, fun hk0 => ?_⟩
  obtain ⟨b, o, ha, hx⟩ := hr (by omega)
  exact ⟨b, o, ha, fun j u hu => hx j u (by rw [List.getElem?_take] at hu; split at hu <;> simp_all)⟩
theorem Strs.take {w : World} {A : Option Addr} {c k : Nat} {l : List (List UInt8)} (h : Strs w (.slice A l.length c) l) (hk : k ≤ l.length) : Strs w (.slice A k c) (l.take k) := by
  have := Rds.take h hk
  unfold Strs
  rw [List.length_take, Nat.min_eq_left hk, List.map_take]
  exact this
theorem Strs.below {w w' : World} {v : Value} {l : List (List UInt8)} (h : Strs w v l) (hb : Below w.heap.size w w') : Strs w' v l := Rds.below h hb
theorem Strs.alloc {w : World} {v : Value} {l : List (List UInt8)} (h : Strs w v l) (o : Obj) : Strs (w.alloc o) v l := Rds.alloc h o
theorem Strs.drewN {w : World} {v : Value} {l : List (List UInt8)} (h : Strs w v l) (n : Nat) : Strs (w.drewN n) v l := h
/-- a slice of strings, opened -/
theorem Strs.open_ {w : World} {v : Value} {l : List (List UInt8)} (h : Strs w v l) : ∃ A c, v = .slice A l.length c ∧ l.length ≤ c ∧ l.length ≤ maxLen ∧
    (∀ k s, l[k]? = some s → ∃ b o, A = some ⟨b, o, none⟩ ∧ w.cell? ⟨b, o + k, none⟩ = some (.string ⟨s.toArray⟩)) := by
  obtain ⟨A, c, hv, hc, hm, hl, hr⟩ := h
  refine ⟨A, c, hv, hc, hm, fun k s hs => ?_⟩
  have hk : k < l.length := (List.getElem?_eq_some_iff.1 hs).1
  obtain ⟨b, o, ha, hx⟩ := hr (by omega)
  exact ⟨b, o, ha, hx k _ (by rw [List.getElem?_map, hs]; rfl)⟩
theorem index_str (w : World) (v : Value) (l : List (List UInt8)) (x : List UInt8) (h : Strs w v l) :
    Calls Try.prog 48 #[v, .string ⟨x.toArray⟩] w fun e w' => e = .returned (.int .i64 (indexI l x)) ∧ w = w' := by
  obtain ⟨A, c, rfl, hc, hm, hx⟩ := h.open_
  unfold maxLen at hm
  go_enter Try.func48, Try.ntmps48
  go_wp2
  go_loop [8] (fun i => ∃ k : Nat, k ≤ l.length ∧ i = .int .i64 k ∧ ∀ y ∈ l.take k, y ≠ x) (fun i => l.length - (intOf i).toNat)
  case atStart => exact ⟨0, Nat.zero_le _, rfl, by simp⟩
  case round =>
    obtain ⟨k, hk, rfl, hn⟩ := hrel
    have HN := Lib.hid hn
    clear hn
    by_cases hlt : k < l.length
    · obtain ⟨y, hy⟩ : ∃ y, l[k]? = some y := ⟨_, List.getElem?_eq_getElem hlt⟩
      obtain ⟨b, o, rfl, g1⟩ := hx k y hy
      have HY := Lib.hid hy
      clear hx hy
      by_cases he : y = x
      · subst he
        have t1 : (y == y) = true := by simp
        go_wp2
        go_ret
        exact ⟨ret_int (indexI_hit HY.out HN.out).symm, rfl⟩
      · have t1 : (x == y) = false := by simpa using (fun h : x = y => he h.symm)
        have HE := Lib.hid he
        clear he
        go_wp2
        go_round
        case rel => exact ⟨k + 1, by omega, by go_num, all_snoc HY.out HN.out HE.out⟩
        case measure => simp [intOf]; omega
    · go_wp2
      go_ret
      exact ⟨ret_int (indexI_miss (all_of_take (by omega) HN.out)).symm, rfl⟩
theorem contains_str (w : World) (v : Value) (l : List (List UInt8)) (x : List UInt8) (h : Strs w v l) :
    Calls Try.prog 15 #[v, .string ⟨x.toArray⟩] w fun e w' => e = .returned (.bool (decide (x ∈ l))) ∧ w = w' := by
  have H1 := Lib.hid (indexI_ge l x)
  go_enter Try.func15, Try.ntmps15
  go_wp2_with (go_at_call 48; refine (index_str _ _ l x h).mono ?_; rintro e w' ⟨rfl, rfl⟩)
  go_ret
  exact ⟨ret_bool (H1.out.trans (decide_eq_decide.2 Iff.rfl)), rfl⟩
end Go.Proofs.Ytignhjfobcnloaa
