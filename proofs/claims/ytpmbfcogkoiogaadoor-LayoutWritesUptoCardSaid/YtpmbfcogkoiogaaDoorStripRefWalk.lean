/- A text with a comment keyword: the reference's question. -/
import Derived.Test.YtpmbfcogkoiogaaDoorStripWalk
import Derived.Test.YtpmbfcogkoiogaaDoorScanRef
namespace Go.Proofs.YtpmbfcogkoiogaaDoor
open Go.RowKit
theorem hasC_iff (s : List UInt8) : hasC s = true ↔ ∃ j : Nat, s[j]? = some 36 ∧ (s[j + 1]? = some 40 ∨ s[j + 1]? = some 41) := by
  unfold hasC
  rw [Bool.or_eq_true, hasB_iff, hasB_iff]
  constructor
  · rintro (⟨j, h1, h2⟩ | ⟨j, h1, h2⟩)
    · exact ⟨j, h1, .inl h2⟩
    · exact ⟨j, h1, .inr h2⟩
  · rintro ⟨j, h1, h2 | h2⟩
    · exact .inl ⟨j, h1, h2⟩
    · exact .inr ⟨j, h1, h2⟩
theorem byte_eq {s : List UInt8} {k n : Nat} (h : k < s.length) (b : UInt8) (hn : n = s[k].toNat) (hb : n = b.toNat) : s[k]? = some b := by
  rw [List.getElem?_eq_getElem h]
  congr 1
  exact UInt8.toNat_inj.1 (hn.symm.trans hb)
theorem byte_ne {s : List UInt8} {k n : Nat} (h : k < s.length) (b : UInt8) (hn : n = s[k].toNat) (hb : n ≠ b.toNat) : s[k]? ≠ some b := by
  rw [List.getElem?_eq_getElem h]
  intro e
  injection e with e
  exact hb (hn.trans (by rw [e]))
set_option maxRecDepth 100000 in
set_option maxHeartbeats 4000000 in
theorem ref_has (w : World) (s : List UInt8) (hs : s.length ≤ 40000) :
    Calls Tryd.prog 94 #[.string ⟨s.toArray⟩] w fun e w' => e = .returned (.bool (hasC s)) ∧ w = w' := by
  go_enter Tryd.func94, Tryd.ntmps94
  go_wp2
  go_loop [3] (fun i => ∃ k : Nat, k ≤ s.length ∧ i = .int .i64 k ∧ ∀ j : Nat, j < k → ¬ (s[j]? = some 36 ∧ (s[j + 1]? = some 40 ∨ s[j + 1]? = some 41))) (fun i => s.length - (intOf i).toNat)
  case atStart => exact ⟨0, Nat.zero_le _, rfl, fun j hj => by omega⟩
  case round =>
    obtain ⟨k, hk, rfl, hn⟩ := hrel
    have HN := Lib.hid hn
    clear hn
    by_cases hlt : k + 1 < s.length
    · have hkl : k < s.length := by omega
      obtain ⟨c, hce, hcl⟩ : ∃ c : Nat, (ByteArray.mk s.toArray)[k].toNat = c ∧ c = s[k].toNat := ⟨_, rfl, rfl⟩
      obtain ⟨d, hde, hdl⟩ : ∃ c : Nat, (ByteArray.mk s.toArray)[k + 1].toNat = c ∧ c = s[k + 1].toNat := ⟨_, rfl, rfl⟩
      have HC := Lib.hid hcl
      have HD := Lib.hid hdl
      have hc256 : c < 256 := by rw [hcl]; exact s[k].toNat_lt
      have hd256 : d < 256 := by rw [hdl]; exact s[k + 1].toNat_lt
      have hix : ((k : Int) + 1).toNat = k + 1 := by omega
      clear hcl hdl
      by_cases h1 : c = 36
      · have e1 : ((c : Int) == 36) = true := by simp [h1]
        have f1 := byte_eq hkl 36 HC.out h1
        by_cases h2 : d = 40
        · have e2 : ((d : Int) == 40) = true := by simp [h2]
          have HH := Lib.hid ((hasC_iff s).2 ⟨k, f1, .inl (byte_eq hlt 40 HD.out h2)⟩)
          clear h1 h2 f1
          go_wp2
          go_ret
          exact ⟨ret_bool HH.out.symm, rfl⟩
        · have e2 : ((d : Int) == 40) = false := by simp; omega
          by_cases h3 : d = 41
          · have e3 : ((d : Int) == 41) = true := by simp [h3]
            have HH := Lib.hid ((hasC_iff s).2 ⟨k, f1, .inr (byte_eq hlt 41 HD.out h3)⟩)
            clear h1 h2 h3 f1
            go_wp2
            go_ret
            exact ⟨ret_bool HH.out.symm, rfl⟩
          · have e3 : ((d : Int) == 41) = false := by simp; omega
            have HX : Hid (¬ (s[k]? = some 36 ∧ (s[k + 1]? = some 40 ∨ s[k + 1]? = some 41))) := Lib.hid (fun h => h.2.elim (byte_ne hlt 40 HD.out h2) (byte_ne hlt 41 HD.out h3))
            clear h1 h2 h3 f1
            go_wp2
            go_round
            case rel => exact ⟨k + 1, by omega, by go_num, fun j hj => by
              by_cases e : j = k
              · subst e; exact HX.out
              · exact HN.out j (by omega)⟩
            case measure => simp [intOf]; omega
      · have e1 : ((c : Int) == 36) = false := by simp; omega
        have HX : Hid (¬ (s[k]? = some 36 ∧ (s[k + 1]? = some 40 ∨ s[k + 1]? = some 41))) := Lib.hid (fun h => byte_ne hkl 36 HC.out h1 h.1)
        clear h1
        go_wp2
        go_round
        case rel => exact ⟨k + 1, by omega, by go_num, fun j hj => by
          by_cases e : j = k
          · subst e; exact HX.out
          · exact HN.out j (by omega)⟩
        case measure => simp [intOf]; omega
    · have HH : Hid (hasC s = false) := Lib.hid (by
        rw [Bool.eq_false_iff]
        intro h
        obtain ⟨j, h1, h2⟩ := (hasC_iff s).1 h
        have hj : j + 1 < s.length := by rcases h2 with h2 | h2 <;> exact (List.getElem?_eq_some_iff.1 h2).1
        exact HN.out j (by omega) ⟨h1, h2⟩)
      go_wp2
      go_ret
      exact ⟨ret_bool HH.out.symm, rfl⟩
theorem infoRCom : (Tryd.prog.info? 140).map (fun i => (i.zero, i.size, i.bytes)) = some (some (.agg #[.string ⟨#[]⟩, .int .i64 0, .int .i64 0, .int .i64 0]), 4, 40) := by kernel_rfl
end Go.Proofs.YtpmbfcogkoiogaaDoor
