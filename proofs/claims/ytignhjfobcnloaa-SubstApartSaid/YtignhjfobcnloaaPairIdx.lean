/- slices.Contains at pairs. -/
import Derived.Test.YtignhjfobcnloaaApartKit
import Derived.Test.YtignhjfobcnloaaSubFew
namespace Go.Proofs.Ytignhjfobcnloaa
open Go.RowKit Go.Shelf
set_option maxRecDepth 20000 in
theorem index_pair (w : World) (v : Value) (l : List PairD) (p : PairD) (h : PairsAt w v l) :
    Calls Try.prog 52 #[v, .agg #[.string ⟨p.1.toArray⟩, .string ⟨p.2.toArray⟩]] w fun e w' => e = .returned (.int .i64 (idxB (fun x => decide (x = p)) l)) ∧ Below w.heap.size w w' := by
  obtain ⟨p1, p2⟩ := p
  have h0 := h
  obtain ⟨A, c, rfl, hc, hm, _⟩ := h.open_
  unfold maxLen at hm
  have hst := stoodPair
  clear h
  go_enter Try.func52, Try.ntmps52
  go_wp2
  go_loopw [8] (fun i wr => ∃ k : Nat, k ≤ l.length ∧ i = .int .i64 k ∧ Below w.heap.size w wr ∧ Row wr w.heap.size 39 #[.string ⟨p1.toArray⟩, .string ⟨p2.toArray⟩] ∧ Hid (∀ x ∈ l.take k, decide (x = (p1, p2)) = false)) (fun i _ => l.length - (intOf i).toNat)
  case atStart => exact ⟨0, Nat.zero_le _, rfl, new_ (Below.refl _ _) _, Row.new _ _ _, Lib.hid (by simp)⟩
  case round =>
    obtain ⟨k, hk, rfl, hb, hr, HN⟩ := hrel
    have c0 := hr.cell (i := 0) (v := .string ⟨p1.toArray⟩) rfl
    have c1 := hr.cell (i := 1) (v := .string ⟨p2.toArray⟩) rfl
    have HR := Lib.hid hr
    clear hr
    by_cases hlt : k < l.length
    · obtain ⟨⟨y1, y2⟩, hy⟩ : ∃ y, l[k]? = some y := ⟨_, List.getElem?_eq_getElem hlt⟩
      obtain ⟨A', c', hvv, _, _, hx⟩ := (h0.below hb).open_
      obtain ⟨rfl, _, rfl⟩ := (by simpa using hvv : A = A' ∧ True ∧ c = c')
      obtain ⟨b, o, rfl, g1, g2⟩ := hx k _ hy
      have HY := Lib.hid hy
      have k0 : (0 : Int) ≤ (k : Int) := Int.natCast_nonneg _
      have k1 : (k : Int) < (l.length : Int) := by omega
      clear hx hy hvv h0
      by_cases hA : p1 = y1
      · by_cases hB : p2 = y2
        · subst hA hB
          have t1 : (p1 == p1) = true := by simp
          have t2 : (p2 == p2) = true := by simp
          have HH := Lib.hid (idxB_hit (p := fun x => decide (x = (p1, p2))) HY.out (by simp) HN.out)
          go_wp2
          go_quiet (fail)
          go_wp2
          go_ret
          exact ⟨ret_int HH.out.symm, below_drewN hb _⟩
        · subst hA
          have t1 : (p1 == p1) = true := by simp
          have t2 : (p2 == y2) = false := by simpa using hB
          have HH := Lib.hid (take_none (p := fun x => decide (x = (p1, p2))) HY.out HN.out (by simpa using fun e => hB e.symm))
          clear hB
          go_wp2
          go_quiet (fail)
          go_wp2
          go_roundw
          case rel => exact ⟨k + 1, by omega, by go_num, below_drewN hb _, Row.drewN HR.out _, HH⟩
          case measure => simp [intOf]; omega
      · have t1 : (p1 == y1) = false := by simpa using hA
        have HH := Lib.hid (take_none (p := fun x => decide (x = (p1, p2))) HY.out HN.out (by simp; intro e; exact absurd e.symm hA))
        clear hA
        go_wp2
        go_quiet (fail)
        go_wp2
        go_roundw
        case rel => exact ⟨k + 1, by omega, by go_num, below_drewN hb _, Row.drewN HR.out _, HH⟩
        case measure => simp [intOf]; omega
    · obtain rfl : k = l.length := by omega
      go_wp2
      go_ret
      exact ⟨ret_int (idxB_miss (by have := HN.out; rwa [List.take_length] at this)).symm, hb⟩
theorem contains_pair (w : World) (v : Value) (l : List PairD) (p : PairD) (z : Bool) (hz : decide (p ∈ l) = z) (h : PairsAt w v l) :
    Calls Try.prog 20 #[v, .agg #[.string ⟨p.1.toArray⟩, .string ⟨p.2.toArray⟩]] w fun e w' => e = .returned (.bool z) ∧ Below w.heap.size w w' := by
  have HZ : Hid (decide (0 ≤ idxB (fun x => decide (x = p)) l) = z) := Lib.hid (by
    rw [idxB_nonneg, ← hz, Bool.eq_iff_iff, List.any_eq_true, decide_eq_true_eq]
    constructor
    · rintro ⟨x, hx, e⟩; rw [decide_eq_true_eq] at e; rw [← e]; exact hx
    · intro hp; exact ⟨p, hp, by simp⟩)
  have HP := Lib.hid h
  obtain ⟨A, c, rfl, _⟩ := h.open_
  clear h hz
  go_enter Try.func20, Try.ntmps20
  go_wp2_with (go_at_call 52; (refine (index_pair _ _ l p (HP.out.below (new_ (Below.refl _ _) _))).mono ?_; rintro e w1 ⟨rfl, hb1⟩))
  go_ret
  exact ⟨ret_bool HZ.out, then_ (new_ (Below.refl _ _) _) hb1⟩
end Go.Proofs.Ytignhjfobcnloaa
