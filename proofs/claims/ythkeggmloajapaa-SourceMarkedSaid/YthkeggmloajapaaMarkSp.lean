/- White space, byte by byte. -/
import Derived.Test.YthkeggmloajapaaMarkDiv
import Derived.Test.YthkeggmloajapaaTokA
namespace Go.Proofs.Ythkeggmloajapaa
open Go.RowKit
theorem sp_cls (b : UInt8) : sp b = decide (cls b.toNat = 1) := by unfold sp; by_cases h : cls b.toNat = 1 <;> simp [h]
set_option maxRecDepth 100000 in
set_option maxHeartbeats 4000000 in
theorem tspace_any (w : World) (s : List UInt8) (hs : s.length ≤ 1000000) : Calls Try.prog 26 #[.string ⟨s.toArray⟩] w fun e w' => e = .returned (.bool (s.all sp)) ∧ Below w.heap.size w w' := by
  go_enter Try.func26, Try.ntmps26
  have hi : (Try.prog.info? 71).map (·.size) = some (tabA 256).size := by rw [tabA_size]; kernel_rfl
  have hone : (tabA 256).all (·.oneCell') = true := by kernel_rfl
  have hal : Try.prog.arrayLen 71 = 256 := by kernel_rfl
  have hzs : (Try.zeroCells71).size = (tabA 256).size := by kernel_rfl
  go_wp2_with (first | (go_at_call 28; refine (classes_any _).mono ?_; rintro e w1 ⟨rfl, hb1⟩) | (refine wpList_store_row rfl 71 (.tmp 3) (.tmp 5) rfl w1.heap.size (tabA 256) rfl rfl 71 Try.zeroCells71 (Row.new _ _ _) hi hzs hone ?_))
  obtain ⟨W, hW⟩ : ∃ W, W = (w1.alloc (.cells Try.zeroCells71 71)).setRow w1.heap.size (tabA 256) := ⟨_, rfl⟩
  rw [← hW]
  have hrow : Row W w1.heap.size 71 (tabA 256) := by rw [hW]; exact setRow_heap _ _ _ _ _ _ (Row.new _ _ _)
  have hB : Below w.heap.size w W := by
    rw [hW]
    exact (new_ hb1 _).trans ⟨rfl, rfl, rfl, by simp, fun k hk => setRow_other _ _ _ _ (by have := hb1.size; omega)⟩
  have HB := Lib.hid hB
  clear hW hi hone hzs hb1 hB
  go_loop [8] (fun i => ∃ k : Nat, k ≤ s.length ∧ i = .int .i64 k ∧ ∀ b ∈ s.take k, sp b = true) (fun i => s.length - (intOf i).toNat)
  case atStart => exact ⟨0, Nat.zero_le _, rfl, by simp⟩
  case round =>
    obtain ⟨k, hk, rfl, hn⟩ := hrel
    have HN := Lib.hid hn
    clear hn
    by_cases hlt : k < s.length
    · obtain ⟨c, hce, hcl⟩ : ∃ c : Nat, (ByteArray.mk s.toArray)[k].toNat = c ∧ c = s[k].toNat := ⟨_, rfl, rfl⟩
      have HC := Lib.hid hcl
      have hc256 : c < 256 := by rw [hcl]; exact s[k].toNat_lt
      clear hcl
      have hcell : W.cell? ⟨w1.heap.size, c, none⟩ = some (.int .u8 (cls c : Nat)) := hrow.cell (by rw [tabA_at _ _ hc256, if_pos hc256])
      by_cases hin : cls c = 1
      · have e1 : ((cls c : Int) != 1) = false := by simp [hin]
        have HIN : Hid (sp s[k] = true) := Lib.hid (by rw [sp_cls, ← HC.out, hin]; rfl)
        clear hin
        go_wp2
        go_round
        case rel => exact ⟨k + 1, by omega, by go_num, all_snoc (p := fun b => sp b = true) (List.getElem?_eq_getElem hlt) HN.out HIN.out⟩
        case measure => simp [intOf]; omega
      · have e1 : ((cls c : Int) != 1) = true := by simp; omega
        have HIN : Hid (s.all sp = false) := Lib.hid (by
          have h1 : sp s[k] = false := by rw [sp_cls, ← HC.out]; simpa using hin
          cases h2 : s.all sp with
          | false => rfl
          | true => rw [List.all_eq_true.1 h2 _ (List.getElem_mem hlt)] at h1; cases h1)
        clear hin
        go_wp2
        go_ret
        rw [HIN.out]
        exact ⟨rfl, HB.out⟩
    · have HA : Hid (s.all sp = true) := Lib.hid (by
        have h1 := HN.out
        rw [List.take_of_length_le (by omega)] at h1
        exact List.all_eq_true.2 h1)
      go_wp2
      go_ret
      rw [HA.out]
      exact ⟨rfl, HB.out⟩
theorem space_any (w : World) (b : UInt8) (z : Int) (hz : z = (b.toNat : Int)) : Calls Try.prog 16 #[.int .u8 z] w fun e w' => e = .returned (.bool (sp b)) ∧ Below w.heap.size w w' := by
  subst hz
  have hcv : (convert 46 9 (.slice (some ⟨w.heap.size, 0, none⟩) 1 1)).run Try.prog (w.alloc (.cells #[.int .u8 (b.toNat : Int)] 5)) = .ok (.string ⟨[b].toArray⟩) (w.alloc (.cells #[.int .u8 (b.toNat : Int)] 5)) :=
    run_str_of_bytes _ _ _ 5 _ _ _ [b] Try.underlying46 Try.underlying5 Try.underlying9 rfl fun j x hx => by
      cases j with
      | zero => simp at hx; subst hx; exact cells_of' w _ _ [u8 b] rfl rfl 0 _ rfl
      | succ j => simp at hx
  go_enter Try.func16, Try.ntmps16
  go_wp2_with (go_at_call 26; (refine (tspace_any _ [b] (by simp)).mono ?_; rintro e w1 ⟨rfl, hb1⟩))
  go_ret
  exact ⟨by simp, (new_ (Below.refl _ _) _).trans (hb1.mono (by simp))⟩
end Go.Proofs.Ythkeggmloajapaa
