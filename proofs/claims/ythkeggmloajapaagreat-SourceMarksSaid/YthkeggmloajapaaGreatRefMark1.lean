/- The reference's citation, and whether a text has one of some bytes. -/
import Derived.Test.YthkeggmloajapaaGreatMarkPlain3
import Derived.Test.YthkeggmloajapaaGreatScanRA
import Derived.Test.YthkeggmloajapaaGreatMarkCite
import Derived.RegionTactic
namespace Go.Proofs.YthkeggmloajapaaGreat
open Go.RowKit
theorem ref_sp (w : World) (b : UInt8) (c : Nat) (hc : c = b.toNat) :
    Calls Tryz.prog 17 #[.int .u8 (c : Int)] w fun e w' => e = .returned (.bool (sp b)) ∧ w = w' := by
  subst hc
  have h := ref_space w b.toNat
  have e : sp b = decide (cls b.toNat = 1) := by unfold sp; by_cases h : cls b.toNat = 1 <;> simp [h]
  rw [e]
  exact h
set_option maxRecDepth 100000 in
set_option maxHeartbeats 4000000 in
theorem ref_cite (w : World) (s r : List UInt8) (hl : s.length ≤ 40000) (hp : 0 < s.length) (hr : s.drop 1 = r) :
    Calls Tryz.prog 18 #[.string ⟨s.toArray⟩] w fun e w' => e = .returned (.int .i64 (citeN r : Nat)) ∧ w = w' := by
  obtain ⟨P, hP⟩ : ∃ P, 1 + (r.takeWhile citeP).length = P := ⟨_, rfl⟩
  have hple : P ≤ s.length := by rw [← hP, ← hr]; exact span_le (p := citeP) hp
  have HI1 : Hid (∀ m, 1 ≤ m → m < P → ∃ h : m < s.length, citeP s[m] = true) := Lib.hid fun m a b => span_in a (by rw [← hP, ← hr] at b; exact b)
  have HE1 : Hid (∀ h : P < s.length, citeP s[P] = false) := Lib.hid fun h => span_end (a := 1) (by rw [← hP, ← hr]) h
  have hk : r[(r.takeWhile citeP).length]? = s[P]? := by rw [← hr, List.getElem?_drop, hr, hP]
  have HNO : Hid (s[P]? ≠ some 93 ∨ P = 1 → citeN r = 0) := Lib.hid fun h => by
    unfold citeN
    rw [hk]
    split
    · rename_i h1
      rcases h with h | h
      · exact absurd h1 h
      · omega
    · rfl
  have HYES : Hid (s[P]? = some 93 → citeN r = P - 1) := Lib.hid fun h1 => by
    unfold citeN
    rw [hk, if_pos h1]
    omega
  have hP1 : 1 ≤ P := by omega
  clear hP hk hr
  obtain ⟨N, hN⟩ : ∃ N, citeN r = N := ⟨_, rfl⟩
  rw [hN] at HNO HYES ⊢
  clear hN
  go_enter Tryz.func18, Tryz.ntmps18
  go_wp2
  go_loop [3] (fun jv => ∃ m : Nat, 1 ≤ m ∧ m ≤ P ∧ jv = .int .i64 m) (fun jv => P - (intOf jv).toNat)
  case atStart => exact ⟨1, Nat.le_refl _, hP1, rfl⟩
  case round =>
    obtain ⟨m, hm1, hm2, rfl⟩ := hrel
    by_cases hlt1 : m < P
    · obtain ⟨hml, hsp⟩ := HI1.out m hm1 hlt1
      obtain ⟨b, hbx⟩ : ∃ b, s[m] = b := ⟨_, rfl⟩
      rw [hbx] at hsp
      obtain ⟨n1, n2, n3⟩ := citeP_true hsp
      obtain ⟨c, hce, hcl⟩ : ∃ c : Nat, (ByteArray.mk s.toArray)[m].toNat = c ∧ c = b.toNat := ⟨_, rfl, by rw [← hbx]; rfl⟩
      have HC := Lib.hid hcl
      have HS := Lib.hid n3
      have x1 : ((c : Int) == 91) = false := by rw [beq_eq_false_iff_ne]; omega
      have x2 : ((c : Int) == 93) = false := by rw [beq_eq_false_iff_ne]; omega
      clear hcl hsp hbx n1 n2 n3
      go_wp2_with (go_at_call 17; (refine (ref_sp _ b c HC.out).mono ?_; rw [HS.out]; rintro e w2 ⟨rfl, rfl⟩))
      go_round
      case rel => exact ⟨m + 1, by omega, by omega, by go_num⟩
      case measure => simp [intOf]; omega
    · obtain rfl : m = P := by omega
      clear hm2 hlt1 HI1
      rcases Nat.lt_or_ge m s.length with hml | hge
      rotate_left
      · have HQ : Hid (N = 0) := Lib.hid (HNO.out (.inl (by rw [List.getElem?_eq_none hge]; simp)))
        have hmm : m = s.length := by omega
        subst hmm
        go_wp2
        go_ret
        rw [HQ.out]
        exact ⟨rfl, rfl⟩
      · obtain ⟨b, hbx⟩ : ∃ b, s[m] = b := ⟨_, rfl⟩
        have HTX : Hid (s[m]? = some b) := Lib.hid (by rw [List.getElem?_eq_getElem hml, hbx])
        have hcp := HE1.out hml
        rw [hbx] at hcp
        obtain ⟨c, hce, hcl⟩ : ∃ c : Nat, (ByteArray.mk s.toArray)[m].toNat = c ∧ c = b.toNat := ⟨_, rfl, by rw [← hbx]; rfl⟩
        clear hbx HE1
        rcases citeP_false hcp with rfl | ⟨n1, rfl⟩ | ⟨n1, n2, n4, n3⟩
        · have HQ : Hid (N = 0) := Lib.hid (HNO.out (.inl (by rw [HTX.out]; decide)))
          have hc : c = 91 := by rw [hcl]; rfl
          subst hc
          clear hcl hcp
          go_wp2
          go_ret
          rw [HQ.out]
          exact ⟨rfl, rfl⟩
        · have hc : c = 93 := by rw [hcl]; rfl
          subst hc
          clear hcl hcp n1
          by_cases z1 : m = 1
          · have HQ : Hid (N = 0) := Lib.hid (HNO.out (.inr z1))
            subst z1
            go_wp2
            go_ret
            rw [HQ.out]
            exact ⟨rfl, rfl⟩
          · have HQ : Hid (N = m - 1) := Lib.hid (HYES.out HTX.out)
            have e1 : ((m : Int) == 1) = false := by rw [beq_eq_false_iff_ne]; omega
            clear z1
            go_wp2
            go_ret
            rw [HQ.out]
            exact ⟨ret_int (by omega), rfl⟩
        · have HQ : Hid (N = 0) := Lib.hid (HNO.out (.inl (by rw [HTX.out]; simpa using n4)))
          have HC := Lib.hid hcl
          have HS := Lib.hid n3
          have x1 : ((c : Int) == 91) = false := by rw [beq_eq_false_iff_ne]; omega
          have x2 : ((c : Int) == 93) = false := by rw [beq_eq_false_iff_ne]; omega
          clear hcl hcp n1 n2 n3 n4
          go_wp2_with (go_at_call 17; (refine (ref_sp _ b c HC.out).mono ?_; rw [HS.out]; rintro e w2 ⟨rfl, rfl⟩))
          go_ret
          rw [HQ.out]
          exact ⟨rfl, rfl⟩
def withinP (sb : Bool) (bs : List UInt8) (b : UInt8) : Bool := (sb && sp b) || bs.any fun c => b == c
set_option maxRecDepth 100000 in
set_option maxHeartbeats 4000000 in
theorem ref_within (w : World) (s bs : List UInt8) (sb : Bool) (hl : s.length ≤ 1000000) (hb8 : bs.length ≤ 100) :
    Calls Tryz.prog 33 #[.string ⟨s.toArray⟩, .string ⟨bs.toArray⟩, .bool sb] w fun e w' => e = .returned (.bool (s.any (withinP sb bs))) ∧ Below w.heap.size w w' := by
  obtain ⟨R, hR⟩ : ∃ R, s.any (withinP sb bs) = R := ⟨_, rfl⟩
  have HR := Lib.hid hR
  rw [hR]
  clear hR
  go_enter Tryz.func33, Tryz.ntmps33
  go_wp2
  go_loopw [7] (fun kv wr => ∃ k n : Nat, k ≤ s.length ∧ kv = .int .i64 k ∧ (s.take k).any (withinP sb bs) = false ∧ wr = w.drewN n) (fun kv _ => s.length - (intOf kv).toNat)
  case atStart => exact ⟨0, 0, Nat.zero_le _, rfl, rfl, rfl⟩
  case round =>
    obtain ⟨k, n, hk, rfl, hn, rfl⟩ := hrel
    have HN := Lib.hid hn
    clear hn
    by_cases hlt : k < s.length
    · obtain ⟨b, hbx⟩ : ∃ b, s[k] = b := ⟨_, rfl⟩
      obtain ⟨c, hce, hcl⟩ : ∃ c : Nat, (ByteArray.mk s.toArray)[k].toNat = c ∧ c = b.toNat := ⟨_, rfl, by rw [← hbx]; rfl⟩
      have HC := Lib.hid hcl
      have HTK : Hid ((s.take (k + 1)).any (withinP sb bs) = withinP sb bs b) := Lib.hid (by
        rw [List.take_succ_eq_append_getElem hlt, List.any_append, HN.out, hbx]; simp)
      have HYES : Hid (withinP sb bs b = true → R = true) := Lib.hid fun h => by
        rw [← HR.out]
        exact List.any_eq_true.2 ⟨b, hbx ▸ List.getElem_mem hlt, h⟩
      clear hcl hbx
      by_cases hsp : (sb && sp b) = true
      · obtain ⟨rfl, h2⟩ := (by simpa using hsp : sb = true ∧ sp b = true)
        have HS := Lib.hid h2
        have HT : Hid (R = true) := Lib.hid (HYES.out (by unfold withinP; rw [h2]; rfl))
        clear hsp h2
        go_wp2_with (go_at_call 17; (refine (ref_sp _ b c HC.out).mono ?_; rw [HS.out]; rintro e w2 ⟨rfl, rfl⟩))
        go_ret
        rw [HT.out]
        exact ⟨rfl, below_drewN (Below.refl _ _) n⟩
      · have HSF : Hid ((sb && sp b) = false) := Lib.hid (by simpa using hsp)
        clear hsp
        cases sb
        all_goals
          go_wp2_with (go_at_call 17; (refine (ref_sp _ b c HC.out).mono ?_; rw [(by simpa using HSF.out : sp b = false)]; rintro e w2 ⟨rfl, rfl⟩))
          go_loopw [8] (fun jv wr => ∃ j m : Nat, j ≤ bs.length ∧ jv = .int .i64 j ∧ (bs.take j).any (fun c => b == c) = false ∧ wr = w.drewN m) (fun jv _ => bs.length - (intOf jv).toNat)
          case atStart => exact ⟨0, n, Nat.zero_le _, rfl, rfl, rfl⟩
          case round =>
            obtain ⟨j, m, hj, rfl, hjn, rfl⟩ := hrel
            have HJ := Lib.hid hjn
            clear hjn
            by_cases hjl : j < bs.length
            · obtain ⟨d, hdx⟩ : ∃ d, bs[j] = d := ⟨_, rfl⟩
              obtain ⟨z, hze, hzl⟩ : ∃ z : Nat, (ByteArray.mk bs.toArray)[j].toNat = z ∧ z = d.toNat := ⟨_, rfl, by rw [← hdx]; rfl⟩
              have HTJ : Hid ((bs.take (j + 1)).any (fun c => b == c) = (b == d)) := Lib.hid (by
                rw [List.take_succ_eq_append_getElem hjl, List.any_append, HJ.out, hdx]; simp)
              by_cases hbd : b = d
              · have x1 : ((c : Int) == (z : Int)) = true := by rw [HC.out, hzl, hbd]; simp
                have HT : Hid (R = true) := Lib.hid (HYES.out (by
                  unfold withinP
                  rw [HSF.out, Bool.false_or]
                  exact List.any_eq_true.2 ⟨d, hdx ▸ List.getElem_mem hjl, by simp [hbd]⟩))
                clear hbd hzl hdx
                go_wp2
                go_region
                go_wp2
                go_ret
                rw [HT.out]
                exact ⟨rfl, below_drewN (Below.refl _ _) (m + 1)⟩
              · have x1 : ((c : Int) == (z : Int)) = false := by
                  rw [beq_eq_false_iff_ne]
                  intro e
                  exact hbd (UInt8.toNat_inj.1 (by rw [← HC.out, ← hzl]; omega))
                have HJ2 : Hid ((bs.take (j + 1)).any (fun c => b == c) = false) := Lib.hid (by rw [HTJ.out]; simpa using hbd)
                clear hbd hzl hdx HTJ
                go_wp2
                go_region
                go_wp2
                go_roundw
                case rel => exact ⟨j + 1, m + 1, by omega, by go_num, HJ2.out, rfl⟩
                case measure => simp [intOf]; omega
            · obtain rfl : j = bs.length := by omega
              have HNO : Hid (withinP _ bs b = false) := Lib.hid (by
                have h1 := HJ.out
                rw [List.take_length] at h1
                unfold withinP
                rw [HSF.out, h1]
                rfl)
              go_wp2
              go_roundw
              case rel => exact ⟨k + 1, m, by omega, by go_num, by rw [HTK.out, HNO.out], rfl⟩
              case measure => simp [intOf]; omega
    · have HA : Hid (R = false) := Lib.hid (by
        have h1 := HN.out
        rw [List.take_of_length_le (by omega)] at h1
        rw [← HR.out, h1])
      go_wp2
      go_ret
      rw [HA.out]
      exact ⟨rfl, below_drewN (Below.refl _ _) n⟩
end Go.Proofs.YthkeggmloajapaaGreat
