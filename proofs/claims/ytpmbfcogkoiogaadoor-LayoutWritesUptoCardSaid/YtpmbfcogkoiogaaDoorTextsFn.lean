/- Texts: of the program, of the reference. -/
import Derived.Test.YtpmbfcogkoiogaaDoorDocPA
import Derived.Test.YtpmbfcogkoiogaaDoorAppA
import Derived.Test.YtpmbfcogkoiogaaDoorStripWalk
namespace Go.Proofs.YtpmbfcogkoiogaaDoor
open Go.RowKit
theorem form_toks {w : World} {size n : Nat} {v : Value} {xs : List Value} (h : Rds w size v n xs) : ∃ a c, v = .slice a n c := by
  obtain ⟨a, c, h, _⟩ := h
  exact ⟨a, c, h⟩
set_option maxHeartbeats 4000000 in
theorem texts_any (w : World) (v : Value) (l : List TokD) (hv : ToksAt w v l) (hl : l.length ≤ 8000) :
    Calls Tryd.prog 35 #[v] w fun e w' => ∃ v', e = .returned v' ∧ Strs w' v' (l.map (·.1)) ∧ Below w.heap.size w w' := by
  obtain ⟨A1, a1, rfl⟩ := form_toks hv
  have HV1 := Lib.hid hv
  clear hv
  obtain ⟨i0, hi, hj0, hj1, hj2⟩ := info_parts infoStr
  go_enter Tryd.func35, Tryd.ntmps35
  go_wp2
  go_loopw [3, 8] (fun ov i wr => ∃ k : Nat, k ≤ l.length ∧ i = .int .i64 k ∧ wr.ownsRow w.heap.size 9 1 ov k ((l.take k).map fun t => Value.string ⟨t.1.toArray⟩) ∧ Below w.heap.size w wr) (fun _ i _ => l.length - (intOf i).toNat)
  case atStart => exact ⟨0, Nat.zero_le _, rfl, World.ownsRow_nil _ _ _ _, Below.refl _ _⟩
  case round =>
    obtain ⟨k, hk, rfl, hown, hb⟩ := hrel
    have hwz := hb.size
    by_cases hlt : k < l.length
    · obtain ⟨t, hx⟩ : ∃ x, l[k]? = some x := ⟨_, List.getElem?_eq_getElem hlt⟩
      obtain ⟨A', c', hvv, _, _, hxx⟩ := ToksAt.open_ (HV1.out.below hb)
      obtain ⟨b, o, hA, g1, g2⟩ := hxx k _ hx
      obtain ⟨rfl, _, rfl⟩ := (by simpa using hvv : A1 = A' ∧ True ∧ a1 = c')
      subst hA
      obtain ⟨L, hL⟩ : ∃ L, L = (l.take k).map fun t => Value.string ⟨t.1.toArray⟩ := ⟨_, rfl⟩
      rw [← hL] at hown
      have HT : Hid ((l.take (k + 1)).map (fun t => Value.string ⟨t.1.toArray⟩) = L ++ [Value.string ⟨t.1.toArray⟩]) := Lib.hid (by rw [hL, take_snoc hx]; simp)
      have HO := Lib.hid hown
      have HB := Lib.hid hb
      clear hxx hx hvv hL hown hb
      go_wp2_with (at_builtin; (refine wpList_append_own _ rfl (.tmp 12) (.tmp 15) 22 rfl w.heap.size 9 i0 (.string ⟨#[]⟩) 1 16 Tryd.underlying22 hi hj0 hj1 hj2 rfl (by decide) _ k L rfl ((HO.out.alloc _).alloc _) ⟨wr.heap.size + 1, 0, none⟩ 1 1 [Value.string ⟨t.1.toArray⟩] rfl rfl (cells_at' _ _ _ _ rfl (by simp)) (by simp [Value.oneCell']) (by unfold maxLen; omega) (by omega) (by simp; omega) ?_; intro v' wz hown' hgrow _))
      go_roundw
      case rel => exact ⟨k + 1, by omega, by go_num, by rw [HT.out]; exact hown', ((HB.out.alloc hwz _).alloc (by simp; omega) _).grown hgrow (by simp; omega) (own_block HO.out)⟩
      case measure => simp [intOf]; omega
    · obtain rfl : k = l.length := by omega
      rw [List.take_length] at hown
      go_wp2
      go_ret
      refine ⟨_, rfl, ?_, hb⟩
      have h1 := Rds.of_own hown
      unfold Strs; simpa [strC, Function.comp_def] using h1
set_option maxHeartbeats 4000000 in
theorem ref_texts (w : World) (v : Value) (l : List TokD) (hv : ToksAt w v l) (hl : l.length ≤ 8000) :
    Calls Tryd.prog 48 #[v] w fun e w' => ∃ v', e = .returned v' ∧ Strs w' v' (l.map (·.1)) ∧ Below w.heap.size w w' := by
  obtain ⟨A1, a1, rfl⟩ := form_toks hv
  have HV1 := Lib.hid hv
  clear hv
  obtain ⟨i0, hi, hj0, hj1, hj2⟩ := info_parts infoStr
  go_enter Tryd.func48, Tryd.ntmps48
  go_wp2
  go_loopw [3, 4] (fun ov i wr => ∃ k : Nat, k ≤ l.length ∧ i = .int .i64 k ∧ wr.ownsRow w.heap.size 9 1 ov k ((l.take k).map fun t => Value.string ⟨t.1.toArray⟩) ∧ Below w.heap.size w wr) (fun _ i _ => l.length - (intOf i).toNat)
  case atStart =>
    have h1 := World.ownsRow_made (base := w.heap.size) (e := 9) (size := 1) w #[] 0 (Nat.le_refl _) (by decide) (by simp)
    exact ⟨0, Nat.zero_le _, rfl, by simpa using h1, new_ (Below.refl _ _) _⟩
  case round =>
    obtain ⟨k, hk, rfl, hown, hb⟩ := hrel
    have hwz := hb.size
    by_cases hlt : k < l.length
    · obtain ⟨t, hx⟩ : ∃ x, l[k]? = some x := ⟨_, List.getElem?_eq_getElem hlt⟩
      obtain ⟨A', c', hvv, _, _, hxx⟩ := ToksAt.open_ (HV1.out.below hb)
      obtain ⟨b, o, hA, g1, g2⟩ := hxx k _ hx
      obtain ⟨rfl, _, rfl⟩ := (by simpa using hvv : A1 = A' ∧ True ∧ a1 = c')
      subst hA
      obtain ⟨L, hL⟩ : ∃ L, L = (l.take k).map fun t => Value.string ⟨t.1.toArray⟩ := ⟨_, rfl⟩
      rw [← hL] at hown
      have HT : Hid ((l.take (k + 1)).map (fun t => Value.string ⟨t.1.toArray⟩) = L ++ [Value.string ⟨t.1.toArray⟩]) := Lib.hid (by rw [hL, take_snoc hx]; simp)
      have HO := Lib.hid hown
      have HB := Lib.hid hb
      clear hxx hx hvv hL hown hb
      go_wp2_with (at_builtin; (refine wpList_append_own _ rfl (.tmp 12) (.tmp 18) 22 rfl w.heap.size 9 i0 (.string ⟨#[]⟩) 1 16 Tryd.underlying22 hi hj0 hj1 hj2 rfl (by decide) _ k L rfl (HO.out.alloc _) ⟨wr.heap.size, 0, none⟩ 1 1 [Value.string ⟨t.1.toArray⟩] rfl rfl (cells_at' _ _ _ _ rfl (by simp)) (by simp [Value.oneCell']) (by unfold maxLen; omega) (by omega) (by simp; omega) ?_; intro v' wz hown' hgrow _))
      go_roundw
      case rel => exact ⟨k + 1, by omega, by go_num, by rw [HT.out]; exact hown', (HB.out.alloc hwz _).grown hgrow (by simp; omega) (own_block HO.out)⟩
      case measure => simp [intOf]; omega
    · obtain rfl : k = l.length := by omega
      rw [List.take_length] at hown
      go_wp2
      go_ret
      refine ⟨_, rfl, ?_, hb⟩
      have h1 := Rds.of_own hown
      unfold Strs; simpa [strC, Function.comp_def] using h1
end Go.Proofs.YtpmbfcogkoiogaaDoor
