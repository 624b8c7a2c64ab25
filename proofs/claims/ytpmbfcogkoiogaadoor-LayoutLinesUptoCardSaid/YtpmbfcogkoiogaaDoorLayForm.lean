/- The program's statements: formed. -/
import Derived.Test.YtpmbfcogkoiogaaDoorLayWordsA
import Derived.Test.YtpmbfcogkoiogaaDoorLayFnA
import Derived.Deep.CutRange
namespace Go.Proofs.YtpmbfcogkoiogaaDoor
open Go.RowKit
/-- a function that tells of a word what p tells, in every later world -/
def PredS (w : World) (f : FuncId) (p : List UInt8 → Bool) : Prop := ∀ (W : World) (s : List UInt8), Below w.heap.size w W → Calls Tryd.prog f #[.string ⟨s.toArray⟩] W fun e w' => e = .returned (.bool (p s)) ∧ Below W.heap.size W w'
theorem isNo_clo (w : World) (g : Nat) (s : List UInt8) (hrow : Row w g 52 #[.func (.func 77) #[] #[]]) :
    Calls Tryd.prog 89 #[.string ⟨s.toArray⟩, .pointer (some ⟨g, 0, none⟩)] w fun e w' => e = .returned (.bool (!symB s)) ∧ Below w.heap.size w w' := by
  have c0 := hrow.cell (i := 0) (v := .func (.func 77) #[] #[]) rfl
  have hlt := hrow.lt
  clear hrow
  obtain ⟨b, hb⟩ : ∃ b, symB s = b := ⟨_, rfl⟩
  have HB := Lib.hid hb
  rw [hb]
  clear hb
  go_enter Tryd.func89, Tryd.ntmps89
  go_wp2_with (go_at_call 77; (refine (isSym_any _ s).mono ?_; rw [HB.out]; rintro e w2 ⟨rfl, hb2⟩))
  go_ret
  exact ⟨rfl, hb2⟩
theorem isNo_clo2 (w : World) (g : Nat) (s : List UInt8) (hrow : Row w g 52 #[.func (.func 78) #[] #[]]) :
    Calls Tryd.prog 89 #[.string ⟨s.toArray⟩, .pointer (some ⟨g, 0, none⟩)] w fun e w' => e = .returned (.bool (!prfS s)) ∧ Below w.heap.size w w' := by
  have c0 := hrow.cell (i := 0) (v := .func (.func 78) #[] #[]) rfl
  have hlt := hrow.lt
  clear hrow
  obtain ⟨b, hb⟩ : ∃ b, prfS s = b := ⟨_, rfl⟩
  have HB := Lib.hid hb
  rw [hb]
  clear hb
  go_enter Tryd.func89, Tryd.ntmps89
  go_wp2_with (go_at_call 78; (refine (isProof_any _ s).mono ?_; rw [HB.out]; rintro e w2 ⟨rfl, hb2⟩))
  go_ret
  exact ⟨rfl, hb2⟩
theorem isNo_any (w : World) (fv : Value) (h1 : fv.oneCell' = true) :
    Calls Tryd.prog 88 #[fv] w fun e w' => e = .returned (.func (.func 89) #[] #[.pointer (some ⟨w.heap.size, 0, none⟩)]) ∧ Row w' w.heap.size 52 #[fv] ∧ Below w.heap.size w w' := by
  go_enter Tryd.func88, Tryd.ntmps88
  go_wp2
  go_ret
  exact ⟨rfl, Row.new _ _ _, new_ (Below.refl _ _) _⟩
set_option maxRecDepth 100000 in
theorem indexStr (w : World) (v : Value) (l : List (List UInt8)) (g : Nat) (p : List UInt8 → Bool) (hv : Strs w v l)
    (hp : ∀ (W : World) (s : List UInt8), Below w.heap.size w W → Calls Tryd.prog 89 #[.string ⟨s.toArray⟩, .pointer (some ⟨g, 0, none⟩)] W fun e w' => e = .returned (.bool (p s)) ∧ Below W.heap.size W w') :
    Calls Tryd.prog 122 #[v, .func (.func 89) #[] #[.pointer (some ⟨g, 0, none⟩)]] w fun e w' => ∃ z : Int, e = .returned (.int .i64 z) ∧ decide (0 ≤ z) = l.any p ∧ Below w.heap.size w w' := by
  obtain ⟨A, c, rfl, hc, hm, hx⟩ := hv.open_
  unfold maxLen at hm
  have HX := Lib.hid hx
  have HPP := Lib.hid hp
  clear hv hx hp
  go_enter Tryd.func122, Tryd.ntmps122
  go_wp2
  go_loopw [8] (fun i wr => ∃ k : Nat, k ≤ l.length ∧ i = .int .i64 k ∧ (∀ y ∈ l.take k, p y = false) ∧ Below w.heap.size w wr) (fun i _ => l.length - (intOf i).toNat)
  case atStart => exact ⟨0, Nat.zero_le _, rfl, by simp, Below.refl _ _⟩
  case round =>
    obtain ⟨k, hk, rfl, hn, hb⟩ := hrel
    have HN := Lib.hid hn
    have HB := Lib.hid hb
    clear hn hb
    by_cases hlt : k < l.length
    · obtain ⟨y, hy⟩ : ∃ y, l[k]? = some y := ⟨_, List.getElem?_eq_getElem hlt⟩
      obtain ⟨b, o, rfl, g0⟩ := HX.out k y hy
      have hlb := block_lt_of_cell g0
      have g1 : wr.cell? ⟨b, o + k, none⟩ = some (.string ⟨y.toArray⟩) := (HB.out.cell (p := ⟨b, o + k, none⟩) hlb).trans g0
      have HY := Lib.hid hy
      have hbl : b < wr.heap.size := Nat.lt_of_lt_of_le hlb HB.out.size
      obtain ⟨q, hq⟩ : ∃ q, p y = q := ⟨_, rfl⟩
      have HQ := Lib.hid hq
      clear hq hy g0
      cases q with
      | true =>
        have HK : Hid (decide ((0 : Int) ≤ (k : Int)) = l.any p) := Lib.hid (by
          rw [decide_eq_true (by omega)]
          exact (List.any_eq_true.2 ⟨y, List.mem_of_getElem? HY.out, HQ.out⟩).symm)
        go_wp2_with (go_at_call 89; (refine (HPP.out _ y HB.out).mono ?_; rw [HQ.out]; rintro e w2 ⟨rfl, hb2⟩))
        go_ret
        exact ⟨_, rfl, HK.out, then_ HB.out hb2⟩
      | false =>
        have HNN := Lib.hid (all_snoc (p := fun y => p y = false) HY.out HN.out HQ.out)
        go_wp2_with (go_at_call 89; (refine (HPP.out _ y HB.out).mono ?_; rw [HQ.out]; rintro e w2 ⟨rfl, hb2⟩))
        go_roundw
        case rel => exact ⟨k + 1, by omega, by go_num, HNN.out, then_ HB.out hb2⟩
        case measure => simp [intOf]; omega
    · have HK : Hid (decide ((0 : Int) ≤ -1) = l.any p) := Lib.hid (by
        rw [decide_eq_false (by omega)]
        symm
        rw [List.any_eq_false]
        intro y hy
        rw [all_of_take (by omega) HN.out y hy]
        decide)
      go_wp2
      go_ret
      exact ⟨_, rfl, HK.out, HB.out⟩
set_option maxRecDepth 100000 in
theorem containsStr (w : World) (v : Value) (l : List (List UInt8)) (g : Nat) (p : List UInt8 → Bool) (r : Bool) (hr : l.any p = r) (hv : Strs w v l)
    (hp : ∀ (W : World) (s : List UInt8), Below w.heap.size w W → Calls Tryd.prog 89 #[.string ⟨s.toArray⟩, .pointer (some ⟨g, 0, none⟩)] W fun e w' => e = .returned (.bool (p s)) ∧ Below W.heap.size W w') :
    Calls Tryd.prog 90 #[v, .func (.func 89) #[] #[.pointer (some ⟨g, 0, none⟩)]] w fun e w' => e = .returned (.bool r) ∧ Below w.heap.size w w' := by
  have HRR := Lib.hid hr
  clear hr
  go_enter Tryd.func90, Tryd.ntmps90
  go_wp2_with (go_at_call 122; (refine (indexStr _ v l g p hv hp).mono ?_; rw [HRR.out]; rintro e w2 ⟨z, rfl, hz, hb2⟩))
  go_ret
  exact ⟨rfl, hb2⟩
end Go.Proofs.YtpmbfcogkoiogaaDoor
