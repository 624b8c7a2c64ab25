/- The order of pairs of the program: ordered, cmp.Compare, cmp.Or, compare. -/
import Derived.Test.YtignhjfobcnloaaBase2
import Derived.RegionTactic
import Derived.Sort.Walk0
import Derived.Sort.Grow
import Derived.Laws.Cover1
namespace Go.Proofs.Ytignhjfobcnloaa
open Go.RowKit
abbrev PairD := List UInt8 × List UInt8
/-- the sign of an order -/
def cmpS (a b : List UInt8) : Int := if a < b then -1 else if b < a then 1 else 0
def cmpP (p q : PairD) : Int := if cmpS p.1 q.1 ≠ 0 then cmpS p.1 q.1 else cmpS p.2 q.2
def orderedS (p : PairD) : PairD := if p.2 < p.1 then (p.2, p.1) else p
def pairV (p : PairD) : Value := .agg #[.string ⟨p.1.toArray⟩, .string ⟨p.2.toArray⟩]
def pairCells (p : PairD) : List Value := [.string ⟨p.1.toArray⟩, .string ⟨p.2.toArray⟩]
theorem cmpS_lt {a b : List UInt8} (h : a < b) : cmpS a b = -1 := by unfold cmpS; rw [if_pos h]
theorem cmpS_gt {a b : List UInt8} (h : ¬ a < b) (h2 : b < a) : cmpS a b = 1 := by unfold cmpS; rw [if_neg h, if_pos h2]
theorem cmpS_eq {a b : List UInt8} (h : ¬ a < b) (h2 : ¬ b < a) : cmpS a b = 0 := by unfold cmpS; rw [if_neg h, if_neg h2]
theorem lt_tri {a b : List UInt8} (h : ¬ a < b) (h2 : ¬ b < a) : a = b := List.le_antisymm (List.not_lt.1 h2) (List.not_lt.1 h)
theorem cmpS_self (a : List UInt8) : cmpS a a = 0 := cmpS_eq (List.lt_irrefl a) (List.lt_irrefl a)
theorem isNaN_str (w : World) (s : List UInt8) : Calls Try.prog 120 #[.string ⟨s.toArray⟩] w fun e w' => e = .returned (.bool false) ∧ w = w' := by
  have t1 : (s != s) = false := by simp
  go_enter Try.func120, Try.ntmps120
  go_wp2
  go_ret
  exact ⟨rfl, rfl⟩
theorem less_true {a b : List UInt8} (h : a < b) : Op.bytesLess a b = true := by rw [bytesLess_eq]; exact decide_eq_true h
theorem less_false {a b : List UInt8} (h : ¬ a < b) : Op.bytesLess a b = false := by rw [bytesLess_eq]; exact decide_eq_false h
theorem compare_str (w : World) (a b : List UInt8) : Calls Try.prog 89 #[.string ⟨a.toArray⟩, .string ⟨b.toArray⟩] w fun e w' => e = .returned (.int .i64 (cmpS a b)) ∧ w = w' := by
  by_cases h : a < b
  · have e1 := less_true h
    have HC := Lib.hid (cmpS_lt h)
    clear h
    go_enter Try.func89, Try.ntmps89
    go_wp2_with (go_at_call 120; (refine (isNaN_str _ _).mono ?_; rintro e w1 ⟨rfl, rfl⟩))
    go_ret
    exact ⟨ret_int HC.out.symm, rfl⟩
  · have e1 := less_false h
    by_cases h2 : b < a
    · have t1 : (a == b) = false := by
        have : a ≠ b := fun e => by subst e; exact h h2
        simpa using this
      have HC := Lib.hid (cmpS_gt h h2)
      clear h h2
      go_enter Try.func89, Try.ntmps89
      go_wp2_with (go_at_call 120; (refine (isNaN_str _ _).mono ?_; rintro e w1 ⟨rfl, rfl⟩))
      go_ret
      exact ⟨ret_int HC.out.symm, rfl⟩
    · have t1 : (a == b) = true := by
        have : a = b := lt_tri h h2
        simpa using this
      have HC := Lib.hid (cmpS_eq h h2)
      clear h h2
      go_enter Try.func89, Try.ntmps89
      go_wp2_with (go_at_call 120; (refine (isNaN_str _ _).mono ?_; rintro e w1 ⟨rfl, rfl⟩))
      go_ret
      exact ⟨ret_int HC.out.symm, rfl⟩
theorem or_two (w : World) (v : Value) (x y : Int) (h : Ints w v [x, y]) : Calls Try.prog 88 #[v] w fun e w' => e = .returned (.int .i64 (if x ≠ 0 then x else y)) ∧ w = w' := by
  obtain ⟨A, c, rfl, hc, hm, hl, hr⟩ := h
  obtain ⟨b, o, rfl, hx⟩ := hr (by simp)
  have g0 := hx 0 (.int .i64 x) rfl
  have g1 := hx 1 (.int .i64 y) rfl
  clear hx hr hl
  simp only [List.length_cons, List.length_nil, Nat.add_zero, Nat.zero_add] at *
  by_cases h0 : x = 0
  · subst h0
    by_cases h1 : y = 0
    · subst h1
      go_enter Try.func88, Try.ntmps88
      go_wp2
      refine wp_loop_rounds 3 ?_
      rw [rounds_succ]
      go_wp2
      rw [rounds_succ]
      go_wp2
      rw [rounds_succ]
      go_wp2
      go_ret
      exact ⟨rfl, rfl⟩
    · have t1 : (y != 0) = true := by simpa using h1
      have t2 : (y == 0) = false := by simpa using h1
      clear h1
      go_enter Try.func88, Try.ntmps88
      go_wp2
      refine wp_loop_rounds 2 ?_
      rw [rounds_succ]
      go_wp2
      rw [rounds_succ]
      go_wp2
      go_ret
      exact ⟨rfl, rfl⟩
  · have t1 : (x != 0) = true := by simpa using h0
    have t2 : (x == 0) = false := by simpa using h0
    have HX := Lib.hid h0
    clear h0
    go_enter Try.func88, Try.ntmps88
    go_wp2
    refine wp_loop_rounds 1 ?_
    rw [rounds_succ]
    go_wp2
    go_ret
    exact ⟨rfl, rfl⟩
theorem or_cmp (w : World) (v : Value) (p q : PairD) (h : Ints w v [cmpS p.1 q.1, cmpS p.2 q.2]) : Calls Try.prog 88 #[v] w fun e w' => e = .returned (.int .i64 (cmpP p q)) ∧ w = w' := or_two w v _ _ h
theorem ints_two (W : World) (x y : Int) (t : TypeId) {g : Nat} (hg : W.heap.size = g) : Ints (W.alloc (.cells #[.int .i64 x, .int .i64 y] t)) (.slice (some ⟨g, 0, none⟩) 2 2) [x, y] := by
  subst hg
  exact Ints.lit W t [x, y] (by simp [maxLen])
theorem ints_two_d (W : World) (x y : Int) (t : TypeId) {g : Nat} (hg : W.heap.size = g) : Ints (W.alloc (.cells #[.int .i64 x, .int .i64 y] t)).drew (.slice (some ⟨g, 0, none⟩) 2 2) [x, y] := ints_two W x y t hg
theorem ordered_any (w : World) (p : PairD) : Calls Try.prog 53 #[pairV p] w fun e w' => e = .returned (pairV (orderedS p)) ∧ Below w.heap.size w w' := by
  obtain ⟨a, b⟩ := p
  by_cases h : b < a
  · have e1 := less_true h
    have HC : Hid (orderedS (a, b) = (b, a)) := Lib.hid (by unfold orderedS; rw [if_pos h])
    clear h
    unfold pairV
    go_enter Try.func53, Try.ntmps53
    go_wp2
    refine bodyPost_ret (v := .agg #[.string ⟨b.toArray⟩, .string ⟨a.toArray⟩]) (by simp [results, Try.results53, go_sem]) rfl ?_
    exact ⟨by rw [HC.out], new_ (new_ (Below.refl _ _) _) _⟩
  · have e1 := less_false h
    have HC : Hid (orderedS (a, b) = (a, b)) := Lib.hid (by unfold orderedS; rw [if_neg h])
    clear h
    unfold pairV
    go_enter Try.func53, Try.ntmps53
    go_wp2
    refine bodyPost_ret (v := .agg #[.string ⟨a.toArray⟩, .string ⟨b.toArray⟩]) (by simp [results, Try.results53, go_sem]) rfl ?_
    exact ⟨by rw [HC.out], new_ (new_ (Below.refl _ _) _) _⟩
end Go.Proofs.Ytignhjfobcnloaa
