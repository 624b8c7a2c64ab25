/- slices.Equal at []int: whether the two lists are equal. -/
import Derived.Test.YtmiblmmjgoeahaaBase2
import Derived.RegionTactic
namespace Go.Proofs.Ytmiblmmjgoeahaa
open Go.RowKit
theorem take_eq_step {α : Type} [DecidableEq α] {xs ys : List α} {k : Nat} {a b : α} (ha : xs[k]? = some a) (hb : ys[k]? = some b) (h : xs.take k = ys.take k) (hab : a = b) : xs.take (k + 1) = ys.take (k + 1) := by
  rw [List.take_add_one, List.take_add_one, ha, hb, h, hab]
theorem ne_of_at {α : Type} {xs ys : List α} {k : Nat} {a b : α} (ha : xs[k]? = some a) (hb : ys[k]? = some b) (hab : a ≠ b) : xs ≠ ys := by
  rintro rfl; rw [ha] at hb; exact hab (by injection hb)
theorem equal_int (w : World) (v1 v2 : Value) (xs ys : List Int) (h1 : Ints w v1 xs) (h2 : Ints w v2 ys) :
    Calls Try.prog 22 #[v1, v2] w fun e w' => e = .returned (.bool (decide (xs = ys))) ∧ ∃ n, w' = w.drewN n := by
  obtain ⟨A1, c1, rfl, hc1, hm1, hl1, hr1⟩ := h1
  obtain ⟨A2, c2, rfl, hc2, hm2, hl2, hr2⟩ := h2
  unfold maxLen at hm1 hm2
  by_cases hlen : xs.length = ys.length
  · have hL := Lib.hid hlen
    have t1 : ((xs.length : Int) != (ys.length : Int)) = false := by simp [hlen]
    clear hlen
    go_enter Try.func22, Try.ntmps22
    go_wp2
    go_loopw [13] (fun i wr => ∃ k n : Nat, k ≤ xs.length ∧ i = .int .i64 k ∧ xs.take k = ys.take k ∧ wr = w.drewN n) (fun i _ => xs.length - (intOf i).toNat)
    case atStart => exact ⟨0, 0, Nat.zero_le _, rfl, rfl, rfl⟩
    case round =>
      obtain ⟨k, n, hk, rfl, he, rfl⟩ := hrel
      have HE := Lib.hid he
      clear he
      by_cases hlt : k < xs.length
      · have hlt2 : k < ys.length := by have := hL.out; omega
        obtain ⟨b1, o1, rfl, hx1⟩ := hr1 (by omega)
        obtain ⟨b2, o2, rfl, hx2⟩ := hr2 (by omega)
        have g1 : w.cell? ⟨b1, o1 + k, none⟩ = some (.int .i64 xs[k]) := hx1 k _ (by simp [hlt])
        have g2 : w.cell? ⟨b2, o2 + k, none⟩ = some (.int .i64 ys[k]) := hx2 k _ (by simp [hlt2])
        clear hx1 hx2
        by_cases heq : xs[k] = ys[k]
        · have t2 : (xs[k] != ys[k]) = false := by simp [heq]
          have Q := Lib.hid heq
          clear heq
          go_wp2
          go_region
          go_wp2
          go_roundw
          case rel => exact ⟨k + 1, n + 1, by omega, by go_num, take_eq_step (List.getElem?_eq_getElem hlt) (List.getElem?_eq_getElem hlt2) HE.out Q.out, rfl⟩
          case measure => simp [intOf]; omega
        · have t2 : (xs[k] != ys[k]) = true := by simp [heq]
          have Q := Lib.hid heq
          clear heq
          go_wp2
          go_region
          go_wp2
          go_ret
          exact ⟨ret_dec (ne_of_at (List.getElem?_eq_getElem hlt) (List.getElem?_eq_getElem hlt2) Q.out), n + 1, rfl⟩
      · have hkk : k = xs.length := by omega
        have HK := Lib.hid hkk
        clear hkk
        go_wp2
        go_ret
        refine ⟨ret_dec_t ?_, n, rfl⟩
        have := HE.out
        rw [HK.out, List.take_length, hL.out, List.take_length] at this
        exact this
  · have t1 : ((xs.length : Int) != (ys.length : Int)) = true := by simpa using (fun h => hlen (by omega))
    have hL := Lib.hid hlen
    clear hlen
    go_enter Try.func22, Try.ntmps22
    go_wp2
    go_ret
    exact ⟨ret_dec fun h => hL.out (by rw [h]), 0, rfl⟩
end Go.Proofs.Ytmiblmmjgoeahaa
