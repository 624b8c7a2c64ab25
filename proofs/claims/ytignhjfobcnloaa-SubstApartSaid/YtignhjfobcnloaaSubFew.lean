/- Few: so many bindings at most, each of so many symbols at most. -/
import Derived.Test.YtignhjfobcnloaaSubFits
namespace Go.Proofs.Ytignhjfobcnloaa
open Go.RowKit
def FewS (l : List BindD) (many most : Int) : Prop := (l.length : Int) ≤ many ∧ ∀ x ∈ l, (x.2.length : Int) ≤ most
instance (l : List BindD) (many most : Int) : Decidable (FewS l many most) := by unfold FewS; infer_instance
def longB (most : Int) (x : BindD) : Bool := decide (most < (x.2.length : Int))
/-- the index of the first element with a property, or -1 -/
def idxB {α : Type} (p : α → Bool) (l : List α) : Int := match l.findIdx? p with | some i => (i : Int) | none => -1
theorem idxB_hit {α : Type} {p : α → Bool} {l : List α} {k : Nat} {y : α} (hy : l[k]? = some y) (h : p y = true) (hn : ∀ x ∈ l.take k, p x = false) : idxB p l = k := by
  have hk : k < l.length := (List.getElem?_eq_some_iff.1 hy).1
  have : l.findIdx? p = some k := by
    rw [List.findIdx?_eq_some_iff_getElem]
    refine ⟨hk, by rw [(List.getElem?_eq_some_iff.1 hy).2]; exact h, fun j hj => ?_⟩
    have := hn l[j] (List.mem_take_iff_getElem.2 ⟨j, by omega, rfl⟩)
    simp [this]
  unfold idxB
  rw [this]
theorem idxB_miss {α : Type} {p : α → Bool} {l : List α} (hn : ∀ x ∈ l, p x = false) : idxB p l = -1 := by
  have : l.findIdx? p = none := by rw [List.findIdx?_eq_none_iff]; exact hn
  unfold idxB
  rw [this]
theorem idxB_nonneg {α : Type} (p : α → Bool) (l : List α) : decide (0 ≤ idxB p l) = l.any p := by
  unfold idxB
  cases h : l.findIdx? p with
  | none =>
    rw [List.findIdx?_eq_none_iff] at h
    symm
    simpa using h
  | some i =>
    rw [List.findIdx?_eq_some_iff_getElem] at h
    obtain ⟨hi, hp, _⟩ := h
    have : l.any p = true := List.any_eq_true.2 ⟨_, List.getElem_mem hi, hp⟩
    rw [this]
    simp
theorem take_none {α : Type} {p : α → Bool} {l : List α} {k : Nat} {y : α} (hy : l[k]? = some y) (hn : ∀ x ∈ l.take k, p x = false) (h : p y = false) : ∀ x ∈ l.take (k + 1), p x = false := by
  rw [List.take_add_one, hy]
  intro x hx
  rcases List.mem_append.1 hx with hx | hx
  · exact hn x hx
  · simp at hx; rw [hx]; exact h
theorem few_clo (w : World) (x : BindD) (tv : Value) (most : Int) (mb : Nat) (hc : w.cell? ⟨mb, 0, none⟩ = some (.int .i64 most)) (ht : Strs w tv x.2) :
    Calls Try.prog 46 #[.agg #[.string ⟨x.1.toArray⟩, tv], .pointer (some ⟨mb, 0, none⟩)] w fun e w' => e = .returned (.bool (longB most x)) ∧ Below w.heap.size w w' := by
  obtain ⟨A, c, rfl⟩ := ht.form
  have hlt := block_lt_of_cell hc
  dsimp only at hlt
  go_enter Try.func46, Try.ntmps46
  go_wp2
  go_ret
  exact ⟨rfl, new_ (Below.refl _ _) _⟩
set_option maxRecDepth 20000 in
theorem index_few (w : World) (lv : Value) (l : List BindD) (most : Int) (mb : Nat) (hl : BindAt w lv l) (hc : w.cell? ⟨mb, 0, none⟩ = some (.int .i64 most)) :
    Calls Try.prog 47 #[lv, .func (.func 46) #[] #[.pointer (some ⟨mb, 0, none⟩)]] w fun e w' => e = .returned (.int .i64 (idxB (longB most) l)) ∧ Below w.heap.size w w' := by
  have h0 := hl
  obtain ⟨A, c, rfl, hcc, hm, hx⟩ := hl
  unfold maxLen at hm
  have hlt0 := block_lt_of_cell hc
  clear hx
  go_enter Try.func47, Try.ntmps47
  go_wp2
  go_loopw [5, 8] (fun _ i wr => ∃ k : Nat, k ≤ l.length ∧ i = .int .i64 k ∧ Below w.heap.size w wr ∧ Hid (∀ x ∈ l.take k, longB most x = false)) (fun _ i _ => l.length - (intOf i).toNat)
  case atStart => exact ⟨0, Nat.zero_le _, rfl, Below.refl _ _, Lib.hid (by simp)⟩
  case round =>
    obtain ⟨k, hk, rfl, hb, HN⟩ := hrel
    have hwz := hb.size
    by_cases hlt : k < l.length
    · obtain ⟨y, hy⟩ : ∃ y, l[k]? = some y := ⟨_, List.getElem?_eq_getElem hlt⟩
      obtain ⟨A', c', hvv, _, _, hx⟩ := h0.below hb
      obtain ⟨rfl, _, rfl⟩ := (by simpa using hvv : A = A' ∧ True ∧ c = c')
      obtain ⟨b, o, tv, rfl, g1, g2, g3⟩ := hx k y hy
      obtain ⟨tA, tc, rfl⟩ := g3.form
      have hc' := (hb.cell (p := ⟨mb, 0, none⟩) hlt0).trans hc
      have HY := Lib.hid hy
      have HC := Lib.hid hc'
      have HG3 := Lib.hid g3
      clear hx hy hvv hc hc' g3
      cases hq : longB most y with
      | true =>
        go_wp2_with (go_at_call 46; (refine (few_clo _ y _ most mb HC.out HG3.out).mono ?_; rintro e w1 ⟨rfl, hb1⟩))
        go_ret
        exact ⟨ret_int (idxB_hit HY.out hq HN.out).symm, then_ hb hb1⟩
      | false =>
        have HQ := Lib.hid hq
        go_wp2_with (go_at_call 46; (refine (few_clo _ y _ most mb HC.out HG3.out).mono ?_; rintro e w1 ⟨rfl, hb1⟩))
        go_roundw
        case rel => exact ⟨k + 1, by omega, by go_num, then_ hb hb1, Lib.hid (take_none HY.out HN.out HQ.out)⟩
        case measure => simp [intOf]; omega
    · obtain rfl : k = l.length := by omega
      go_wp2
      go_ret
      exact ⟨ret_int (idxB_miss (by have := HN.out; rwa [List.take_length] at this)).symm, hb⟩
theorem contains_few (w : World) (lv : Value) (l : List BindD) (most : Int) (mb : Nat) (hl : BindAt w lv l) (hc : w.cell? ⟨mb, 0, none⟩ = some (.int .i64 most)) :
    Calls Try.prog 45 #[lv, .func (.func 46) #[] #[.pointer (some ⟨mb, 0, none⟩)]] w fun e w' => e = .returned (.bool (l.any (longB most))) ∧ Below w.heap.size w w' := by
  have h0 := hl
  obtain ⟨A, c, rfl, hcc, hm, hx⟩ := hl
  clear hx
  have HC := Lib.hid hc
  have HL := Lib.hid h0
  clear hc h0
  go_enter Try.func45, Try.ntmps45
  go_wp2_with (go_at_call 47; (refine (index_few _ _ l most mb HL.out HC.out).mono ?_; rintro e w1 ⟨rfl, hb1⟩))
  go_ret
  exact ⟨ret_bool (idxB_nonneg _ _), hb1⟩
theorem few_any (w : World) (lv : Value) (l : List BindD) (many most : Int) (hl : BindAt w lv l) :
    Calls Try.prog 10 #[lv, .int .i64 many, .int .i64 most] w fun e w' => e = .returned (.bool (decide (FewS l many most))) ∧ Below w.heap.size w w' := by
  have h0 := hl
  obtain ⟨A, c, rfl, hcc, hm, hx⟩ := hl
  clear hx
  have HL := Lib.hid h0
  clear h0
  by_cases h1 : (l.length : Int) ≤ many
  · have e1 : decide ((l.length : Int) ≤ many) = true := decide_eq_true h1
    have HP : Hid (decide (FewS l many most) = !(l.any (longB most))) := Lib.hid (by
      rw [Bool.eq_iff_iff]
      simp only [decide_eq_true_eq, FewS, h1, true_and, Bool.not_eq_true', List.any_eq_false, longB]
      constructor
      · intro h x hx; have := h x hx; omega
      · intro h x hx; have := h x hx; omega)
    go_enter Try.func10, Try.ntmps10
    go_wp2_with (go_at_call 45; (refine (contains_few _ _ l most _ (HL.out.below (new_ (Below.refl _ _) _)) ((Row.new _ _ _).cell rfl)).mono ?_; rintro e w1 ⟨rfl, hb1⟩))
    go_ret
    exact ⟨ret_bool HP.out.symm, then_ (new_ (Below.refl _ _) _) hb1⟩
  · have e1 : decide ((l.length : Int) ≤ many) = false := decide_eq_false h1
    have HP : Hid (decide (FewS l many most) = false) := Lib.hid (decide_eq_false fun h => h1 h.1)
    go_enter Try.func10, Try.ntmps10
    go_wp2
    go_ret
    exact ⟨ret_bool HP.out.symm, new_ (Below.refl _ _) _⟩
end Go.Proofs.Ytignhjfobcnloaa
