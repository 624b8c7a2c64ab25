/- slices.EqualFunc of two lists of bindings that read as the same list. -/
import Derived.Test.YtieclecpjjfhfaaSubFits
import Derived.Test.YtieclecpjjfhfaaStrMore
namespace Go.Proofs.Ytieclecpjjfhfaa
open Go.RowKit
theorem bind_eq (w : World) (x : BindD) (t1 t2 : Value) (h1 : Strs w t1 x.2) (h2 : Strs w t2 x.2) :
    Calls Try.prog 79 #[.agg #[.string ⟨x.1.toArray⟩, t1], .agg #[.string ⟨x.1.toArray⟩, t2]] w fun e w' => e = .returned (.bool true) ∧ Below w.heap.size w w' := by
  obtain ⟨A1, c1, rfl⟩ := h1.form
  obtain ⟨A2, c2, rfl⟩ := h2.form
  have H1 := Lib.hid h1
  have H2 := Lib.hid h2
  clear h1 h2
  go_enter Try.func79, Try.ntmps79
  go_wp2_with (go_at_call 31; (refine (equal_str_same _ _ _ x.2 (H1.out.below (new_ (new_ (Below.refl _ _) _) _)) (H2.out.below (new_ (new_ (Below.refl _ _) _) _))).mono ?_; rintro e w1 ⟨rfl, hb1⟩))
  go_ret
  exact ⟨rfl, then_ (new_ (new_ (Below.refl _ _) _) _) hb1⟩
set_option maxRecDepth 20000 in
theorem equalFunc_binds (w : World) (v1 v2 : Value) (l : List BindD) (h1 : BindAt w v1 l) (h2 : BindAt w v2 l) :
    Calls Try.prog 78 #[v1, v2, .func (.func 79) #[] #[]] w fun e w' => e = .returned (.bool true) ∧ Below w.heap.size w w' := by
  have h10 := h1
  have h20 := h2
  obtain ⟨A1, c1, rfl, hc1, hm1, hx1⟩ := h1
  obtain ⟨A2, c2, rfl, hc2, hm2, hx2⟩ := h2
  unfold maxLen at hm1 hm2
  clear hx1 hx2
  go_enter Try.func78, Try.ntmps78
  go_wp2
  go_loopw [17] (fun i wr => ∃ k : Nat, k ≤ l.length ∧ i = .int .i64 k ∧ Below w.heap.size w wr) (fun i _ => l.length - (intOf i).toNat)
  case atStart => exact ⟨0, Nat.zero_le _, rfl, Below.refl _ _⟩
  case round =>
    obtain ⟨k, hk, rfl, hb⟩ := hrel
    have hB := hb.size
    by_cases hlt : k < l.length
    · obtain ⟨y, hy⟩ : ∃ y, l[k]? = some y := ⟨_, List.getElem?_eq_getElem hlt⟩
      obtain ⟨A1', q1, hv1, _, _, hx1⟩ := h10.below hb
      obtain ⟨rfl, _, rfl⟩ := (by simpa using hv1 : A1 = A1' ∧ True ∧ c1 = q1)
      obtain ⟨A2', q2, hv2, _, _, hx2⟩ := h20.below hb
      obtain ⟨rfl, _, rfl⟩ := (by simpa using hv2 : A2 = A2' ∧ True ∧ c2 = q2)
      obtain ⟨b1, o1, t1, rfl, s1, s2, s3⟩ := hx1 k y hy
      obtain ⟨b2, o2, t2, rfl, r1, r2, r3⟩ := hx2 k y hy
      obtain ⟨tA1, tc1, rfl⟩ := s3.form
      obtain ⟨tA2, tc2, rfl⟩ := r3.form
      have l1 := block_lt_of_cell s1
      have l2 := block_lt_of_cell r1
      have HS := Lib.hid s3
      have HR := Lib.hid r3
      clear hx1 hx2 hy hv1 hv2 s3 r3
      go_wp2_with (go_at_call 79; (refine (bind_eq _ y _ _ (HS.out.below (new_ (new_ (Below.refl _ _) _) _)) (HR.out.below (new_ (new_ (Below.refl _ _) _) _))).mono ?_; rintro e w' ⟨rfl, hb'⟩))
      go_roundw
      case rel => exact ⟨k + 1, by omega, by go_num, then_ (new_ (new_ hb _) _) hb'⟩
      case measure => simp [intOf]; omega
    · go_wp2
      go_ret
      exact ⟨rfl, hb⟩
end Go.Proofs.Ytieclecpjjfhfaa
