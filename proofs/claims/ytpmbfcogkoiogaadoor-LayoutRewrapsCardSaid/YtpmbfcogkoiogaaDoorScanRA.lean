/- Scan of the reference. A text with a comment keyword: the reference's question. -/
import Derived.Test.YtpmbfcogkoiogaaDoorScanWA
section
namespace Go.Proofs.YtpmbfcogkoiogaaDoor
open Go.RowKit
theorem cls_one (c : Nat) : cls c = 1 ↔ c = 32 ∨ c = 9 ∨ c = 13 ∨ c = 10 ∨ c = 12 := by
  unfold cls
  split
  · omega
  · split
    · omega
    · split
      · omega
      · split <;> omega
theorem cls_print (c : Nat) : (33 ≤ c ∧ c ≤ 126) ↔ (cls c ≠ 0 ∧ cls c ≠ 1) := by
  unfold cls
  split
  · omega
  · split
    · omega
    · split
      · omega
      · split <;> omega
theorem ref_space (w : World) (c : Nat) :
    Calls Tryd.prog 64 #[.int .u8 (c : Int)] w fun e w' => e = .returned (.bool (decide (cls c = 1))) ∧ w = w' := by
  by_cases h : cls c = 1
  · have h2 := (cls_one c).1 h
    have H := Lib.hid h
    clear h
    rcases h2 with rfl | rfl | rfl | rfl | rfl
    all_goals
      go_enter Tryd.func64, Tryd.ntmps64
      go_wp2
      go_ret
      exact ⟨ret_dec_t H.out, rfl⟩
  · have h2 := mt (cls_one c).2 h
    have H := Lib.hid h
    have f1 : ((c : Int) == 32) = false := by simp; omega
    have f2 : ((c : Int) == 9) = false := by simp; omega
    have f3 : ((c : Int) == 13) = false := by simp; omega
    have f4 : ((c : Int) == 10) = false := by simp; omega
    have f5 : ((c : Int) == 12) = false := by simp; omega
    clear h h2
    go_enter Tryd.func64, Tryd.ntmps64
    go_wp2
    go_ret
    exact ⟨ret_dec H.out, rfl⟩
theorem ref_printable (w : World) (c : Nat) :
    Calls Tryd.prog 108 #[.int .u8 (c : Int)] w fun e w' => e = .returned (.bool (decide (cls c ≠ 0 ∧ cls c ≠ 1))) ∧ w = w' := by
  by_cases h1 : 33 ≤ c
  · have e1 : decide ((33 : Int) ≤ (c : Int)) = true := decide_eq_true (by omega)
    by_cases h2 : c ≤ 126
    · have e2 : decide ((c : Int) ≤ 126) = true := decide_eq_true (by omega)
      have H := Lib.hid ((cls_print c).1 ⟨h1, h2⟩)
      go_enter Tryd.func108, Tryd.ntmps108
      go_wp2
      go_ret
      exact ⟨ret_dec_t H.out, rfl⟩
    · have e2 : decide ((c : Int) ≤ 126) = false := decide_eq_false (by omega)
      have H := Lib.hid (mt (cls_print c).2 (fun h => h2 h.2))
      go_enter Tryd.func108, Tryd.ntmps108
      go_wp2
      go_ret
      exact ⟨ret_dec H.out, rfl⟩
  · have e1 : decide ((33 : Int) ≤ (c : Int)) = false := decide_eq_false (by omega)
    have H := Lib.hid (mt (cls_print c).2 (fun h => h1 h.1))
    go_enter Tryd.func108, Tryd.ntmps108
    go_wp2
    go_ret
    exact ⟨ret_dec H.out, rfl⟩
set_option maxRecDepth 100000 in
set_option maxHeartbeats 4000000 in
theorem ref_scan (w : World) (s : List UInt8) :
    Calls Tryd.prog 66 #[.string ⟨s.toArray⟩] w fun e w' => ∃ v, e = .returned (.tuple #[v, .int .i64 (scanS s).2.1, .int .i64 (scanS s).2.2]) ∧ ToksAt w' v (scanS s).1 ∧ Below w.heap.size w w' := by
  by_cases hbig : 40000 < s.length
  · have e0 : decide ((40000 : Int) < (s.length : Int)) = true := decide_eq_true (by omega)
    have HS := Lib.hid (scanS_big hbig)
    clear hbig
    go_enter Tryd.func66, Tryd.ntmps66
    go_wp2
    go_ret3
    rw [HS.out]
    exact ⟨_, rfl, Rds.nil_, Below.refl _ _⟩
  · have e0 : decide ((40000 : Int) < (s.length : Int)) = false := decide_eq_false (by omega)
    have hs4 : s.length ≤ 40000 := by omega
    have HBIG := Lib.hid hbig
    clear hbig
    go_enter Tryd.func66, Tryd.ntmps66
    go_wp2
    go_loop [5] (fun i => ∃ k : Nat, k ≤ s.length ∧ i = .int .i64 k ∧ ∀ (j : Nat) (y : UInt8), j < k → s[j]? = some y → cls y.toNat ≠ 0) (fun i => s.length - (intOf i).toNat)
    case atStart => exact ⟨0, Nat.zero_le _, rfl, by simp⟩
    case round =>
      obtain ⟨k, hk, rfl, hn⟩ := hrel
      have HN := Lib.hid hn
      clear hn
      by_cases hlt : k < s.length
      · obtain ⟨c, hce, hcl⟩ : ∃ c : Nat, (ByteArray.mk s.toArray)[k].toNat = c ∧ c = s[k].toNat := ⟨_, rfl, rfl⟩
        have HC := Lib.hid hcl
        have hc256 : c < 256 := by rw [hcl]; exact s[k].toNat_lt
        clear hcl
        by_cases h0 : cls c = 0
        · have e1 : decide (cls c = 1) = false := decide_eq_false (by omega)
          have e2 : decide (cls c ≠ 0 ∧ cls c ≠ 1) = false := decide_eq_false (by omega)
          have HS := Lib.hid (scanS_byte HBIG.out (List.getElem?_eq_getElem hlt) (by rw [← HC.out]; exact h0) HN.out)
          clear h0
          go_wp2_with (first | (go_at_call 64; (refine (ref_space _ c).mono ?_; rw [e1]; rintro e w1 ⟨rfl, rfl⟩)) | (go_at_call 108; (refine (ref_printable _ c).mono ?_; rw [e2]; rintro e w1 ⟨rfl, rfl⟩)))
          go_ret3
          rw [HS.out]
          exact ⟨_, rfl, Rds.nil_, Below.refl _ _⟩
        · have H0 := Lib.hid h0
          by_cases h1 : cls c = 1
          · have e1 : decide (cls c = 1) = true := decide_eq_true h1
            clear h0 h1
            go_wp2_with (first | (go_at_call 64; (refine (ref_space _ c).mono ?_; rw [e1]; rintro e w1 ⟨rfl, rfl⟩)))
            go_round
            case rel => exact ⟨k + 1, by omega, by go_num, fun j y hj hy => by
              by_cases e : j = k
              · subst e; rw [List.getElem?_eq_getElem hlt] at hy; cases hy; rw [← HC.out]; exact H0.out
              · exact HN.out j y (by omega) hy⟩
            case measure => simp [intOf]; omega
          · have e1 : decide (cls c = 1) = false := decide_eq_false h1
            have e2 : decide (cls c ≠ 0 ∧ cls c ≠ 1) = true := decide_eq_true ⟨h0, h1⟩
            clear h0 h1
            go_wp2_with (first | (go_at_call 64; (refine (ref_space _ c).mono ?_; rw [e1]; rintro e w1 ⟨rfl, rfl⟩)) | (go_at_call 108; (refine (ref_printable _ c).mono ?_; rw [e2]; rintro e w1 ⟨rfl, rfl⟩)))
            go_round
            case rel => exact ⟨k + 1, by omega, by go_num, fun j y hj hy => by
              by_cases e : j = k
              · subst e; rw [List.getElem?_eq_getElem hlt] at hy; cases hy; rw [← HC.out]; exact H0.out
              · exact HN.out j y (by omega) hy⟩
            case measure => simp [intOf]; omega
      · obtain rfl : k = s.length := by omega
        have HA : Hid (∀ (j : Nat) (y : UInt8), s[j]? = some y → cls y.toNat ≠ 0) := Lib.hid fun j y hy => HN.out j y (List.getElem?_eq_some_iff.1 hy).1 hy
        obtain ⟨i0, hi, hj0, hj1, hj2⟩ := info_parts infoTok
        go_wp2
        go_loopw [6, 7] (fun lv iv wr => ∃ (i : Nat) (l : List TokD), ScAt s i l ∧ iv = .int .i64 i ∧ wr.ownsRow w.heap.size 85 2 lv l.length (l.flatMap tokCells) ∧ Below w.heap.size w wr) (fun _ iv _ => s.length - (intOf iv).toNat)
        case atStart => exact ⟨0, [], ⟨Nat.zero_le _, by simp, by simp⟩, rfl, World.ownsRow_made _ _ _ (Nat.le_refl _) (by decide) rfl, new_ (Below.refl _ _) _⟩
        case round =>
          obtain ⟨i, l, hsc, rfl, hown, hbw⟩ := hrel
          have hil := hsc.le
          have hfew := hsc.few
          have HSC := Lib.hid hsc
          clear hsc
          obtain ⟨Al, cl, rfl, hcl⟩ := own_form hown
          obtain ⟨wo, rfl⟩ : ∃ wo : World, wo = wr := ⟨_, rfl⟩
          have hwz := hbw.size
          by_cases hlt : i < s.length
          · obtain ⟨c, hce, hcl⟩ : ∃ c : Nat, (ByteArray.mk s.toArray)[i].toNat = c ∧ c = s[i].toNat := ⟨_, rfl, rfl⟩
            have HC := Lib.hid hcl
            have hc256 : c < 256 := by rw [hcl]; exact s[i].toNat_lt
            clear hcl
            by_cases h1 : cls c = 1
            · have e1 : decide (cls c = 1) = true := decide_eq_true h1
              have H1 := Lib.hid h1
              clear h1
              go_wp2_with (first | (go_at_call 64; (refine (ref_space _ c).mono ?_; rw [e1]; rintro e w1 ⟨rfl, rfl⟩)))
              go_roundw
              case rel => exact ⟨i + 1, l, HSC.out.skip (List.getElem?_eq_getElem hlt) (sp_true (by rw [← HC.out]; exact H1.out)), by go_num, hown, hbw⟩
              case measure => simp [intOf]; omega
            · have e1 : decide (cls c = 1) = false := decide_eq_false h1
              have HSP : Hid (sp s[i] = false) := Lib.hid (sp_false (by rw [← HC.out]; exact h1))
              have e2 : decide (cls c ≠ 0 ∧ cls c ≠ 1) = true := decide_eq_true ⟨by rw [HC.out]; exact HA.out i _ (List.getElem?_eq_getElem hlt), h1⟩
              clear h1
              go_wp2_with (first | (go_at_call 64; (refine (ref_space _ c).mono ?_; rw [e1]; rintro e w1 ⟨rfl, rfl⟩)))
              go_loop [8] (fun ev => ∃ e : Nat, i ≤ e ∧ e ≤ s.length ∧ ev = .int .i64 e ∧ ∀ (j : Nat) (b : UInt8), i ≤ j → j < e → s[j]? = some b → sp b = false) (fun ev => s.length - (intOf ev).toNat)
              case atStart => exact ⟨i, Nat.le_refl _, by omega, rfl, fun j b h1 h2 => by omega⟩
              case round =>
                obtain ⟨e, he1, he2, rfl, hns⟩ := hrel
                have HNS := Lib.hid hns
                clear hns
                by_cases hlt2 : e < s.length
                · obtain ⟨c2, hce2, hcl2⟩ : ∃ c : Nat, (ByteArray.mk s.toArray)[e].toNat = c ∧ c = s[e].toNat := ⟨_, rfl, rfl⟩
                  have HC2 := Lib.hid hcl2
                  have hc2256 : c2 < 256 := by rw [hcl2]; exact s[e].toNat_lt
                  clear hcl2
                  have hne0 : cls c2 ≠ 0 := by rw [HC2.out]; exact HA.out e _ (List.getElem?_eq_getElem hlt2)
                  by_cases h2 : cls c2 = 1
                  · have e3 : decide (cls c2 ≠ 0 ∧ cls c2 ≠ 1) = false := decide_eq_false (fun h => h.2 h2)
                    have hsp2 : sp s[e] = true := sp_true (by rw [← HC2.out]; exact h2)
                    have hie : i < e := by
                      rcases Nat.lt_or_ge i e with h | h
                      · exact h
                      · obtain rfl : e = i := by omega
                        have := HSP.out; rw [hsp2] at this; cases this
                    have HT : Hid (∀ b, s[e]? = some b → sp b = true) := Lib.hid fun b hb => by rw [List.getElem?_eq_getElem hlt2] at hb; cases hb; exact hsp2
                    clear h2 hsp2 hne0
                    by_cases h8 : l.length = 8000
                    · have e8 : ((l.length : Int) == 8000) = true := by simp [h8]
                      have HS := Lib.hid (HSC.out.full (List.getElem?_eq_getElem hlt) HSP.out h8 HBIG.out HA.out)
                      clear h8
                      go_wp2_with (first | (go_at_call 108; (refine (ref_printable _ c2).mono ?_; rw [e3]; rintro e w1 ⟨rfl, rfl⟩)))
                      go_ret3
                      rw [HS.out]
                      exact ⟨_, rfl, Rds.nil_, hbw⟩
                    · have e8 : ((l.length : Int) == 8000) = false := by simp; omega
                      replace h8 := Lib.hid h8
                      go_wp2_with (first | (at_builtin; (refine wpList_append_own _ rfl (.tmp 59) (.tmp 66) 70 rfl w.heap.size 85 i0 (.agg #[.string ⟨#[]⟩, .int .i64 0]) 2 24 Tryd.underlying70 hi hj0 hj1 hj2 rfl (by decide) _ l.length (l.flatMap tokCells) rfl (hown.alloc _) ⟨wo.heap.size, 0, none⟩ 1 1 [.string ((ByteArray.mk s.toArray).extract i e), .int .i64 (i : Int)] rfl rfl (cells_at _ _ _ _ rfl) (by simp [Value.oneCell']) (by unfold maxLen; omega) (by omega) (by simp; omega) ?_; intro v' wz hown' hgrow _)) | (go_at_call 108; (refine (ref_printable _ c2).mono ?_; rw [e3]; rintro e w1 ⟨rfl, rfl⟩)))
                      rw [bytes_cut] at hown'
                      go_roundw
                      case rel => exact ⟨e, l ++ [((s.take e).drop i, i)], HSC.out.tok hie he2 HNS.out HT.out h8.out, rfl, toks_snoc hown' rfl rfl, ((hbw.alloc (by omega) _).grown hgrow (by simp; omega) (own_block hown))⟩
                      case measure => simp [intOf]; omega
                  · have e3 : decide (cls c2 ≠ 0 ∧ cls c2 ≠ 1) = true := decide_eq_true ⟨hne0, h2⟩
                    have H2 := Lib.hid h2
                    clear h2 hne0
                    go_wp2_with (first | (go_at_call 108; (refine (ref_printable _ c2).mono ?_; rw [e3]; rintro e w1 ⟨rfl, rfl⟩)))
                    go_round
                    case rel => exact ⟨e + 1, by omega, by omega, by go_num, fun j b h1 h2 hj => by
                      by_cases ej : j = e
                      · subst ej; rw [List.getElem?_eq_getElem hlt2] at hj; cases hj; exact sp_false (by rw [← HC2.out]; exact H2.out)
                      · exact HNS.out j b h1 (by omega) hj⟩
                    case measure => simp [intOf]; omega
                · have hie : i < e := by omega
                  have HT : Hid (∀ b, s[e]? = some b → sp b = true) := Lib.hid fun b hb => by rw [List.getElem?_eq_none (by omega)] at hb; cases hb
                  by_cases h8 : l.length = 8000
                  · have e8 : ((l.length : Int) == 8000) = true := by simp [h8]
                    have HS := Lib.hid (HSC.out.full (List.getElem?_eq_getElem hlt) HSP.out h8 HBIG.out HA.out)
                    clear h8
                    go_wp2
                    go_ret3
                    rw [HS.out]
                    exact ⟨_, rfl, Rds.nil_, hbw⟩
                  · have e8 : ((l.length : Int) == 8000) = false := by simp; omega
                    replace h8 := Lib.hid h8
                    go_wp2_with (first | (at_builtin; (refine wpList_append_own _ rfl (.tmp 59) (.tmp 66) 70 rfl w.heap.size 85 i0 (.agg #[.string ⟨#[]⟩, .int .i64 0]) 2 24 Tryd.underlying70 hi hj0 hj1 hj2 rfl (by decide) _ l.length (l.flatMap tokCells) rfl (hown.alloc _) ⟨wo.heap.size, 0, none⟩ 1 1 [.string ((ByteArray.mk s.toArray).extract i e), .int .i64 (i : Int)] rfl rfl (cells_at _ _ _ _ rfl) (by simp [Value.oneCell']) (by unfold maxLen; omega) (by omega) (by simp; omega) ?_; intro v' wz hown' hgrow _)))
                    rw [bytes_cut] at hown'
                    go_roundw
                    case rel => exact ⟨e, l ++ [((s.take e).drop i, i)], HSC.out.tok hie he2 HNS.out HT.out h8.out, rfl, toks_snoc hown' rfl rfl, ((hbw.alloc (by omega) _).grown hgrow (by simp; omega) (own_block hown))⟩
                    case measure => simp [intOf]; omega
          · obtain rfl : i = s.length := by omega
            have HS := Lib.hid (HSC.out.fin HBIG.out HA.out)
            go_wp2
            go_ret3
            rw [HS.out]
            exact ⟨_, rfl, Rds.of_own hown, hbw⟩
end Go.Proofs.YtpmbfcogkoiogaaDoor
end
section
namespace Go.Proofs.YtpmbfcogkoiogaaDoor
open Go.RowKit
theorem hasC_iff (s : List UInt8) : hasC s = true ↔ ∃ j : Nat, s[j]? = some 36 ∧ (s[j + 1]? = some 40 ∨ s[j + 1]? = some 41) := by
  unfold hasC
  rw [Bool.or_eq_true, hasB_iff, hasB_iff]
  constructor
  · rintro (⟨j, h1, h2⟩ | ⟨j, h1, h2⟩)
    · exact ⟨j, h1, .inl h2⟩
    · exact ⟨j, h1, .inr h2⟩
  · rintro ⟨j, h1, h2 | h2⟩
    · exact .inl ⟨j, h1, h2⟩
    · exact .inr ⟨j, h1, h2⟩
theorem byte_eq {s : List UInt8} {k n : Nat} (h : k < s.length) (b : UInt8) (hn : n = s[k].toNat) (hb : n = b.toNat) : s[k]? = some b := by
  rw [List.getElem?_eq_getElem h]
  congr 1
  exact UInt8.toNat_inj.1 (hn.symm.trans hb)
theorem byte_ne {s : List UInt8} {k n : Nat} (h : k < s.length) (b : UInt8) (hn : n = s[k].toNat) (hb : n ≠ b.toNat) : s[k]? ≠ some b := by
  rw [List.getElem?_eq_getElem h]
  intro e
  injection e with e
  exact hb (hn.trans (by rw [e]))
set_option maxRecDepth 100000 in
set_option maxHeartbeats 4000000 in
theorem ref_has (w : World) (s : List UInt8) (hs : s.length ≤ 40000) :
    Calls Tryd.prog 94 #[.string ⟨s.toArray⟩] w fun e w' => e = .returned (.bool (hasC s)) ∧ w = w' := by
  go_enter Tryd.func94, Tryd.ntmps94
  go_wp2
  go_loop [3] (fun i => ∃ k : Nat, k ≤ s.length ∧ i = .int .i64 k ∧ ∀ j : Nat, j < k → ¬ (s[j]? = some 36 ∧ (s[j + 1]? = some 40 ∨ s[j + 1]? = some 41))) (fun i => s.length - (intOf i).toNat)
  case atStart => exact ⟨0, Nat.zero_le _, rfl, fun j hj => by omega⟩
  case round =>
    obtain ⟨k, hk, rfl, hn⟩ := hrel
    have HN := Lib.hid hn
    clear hn
    by_cases hlt : k + 1 < s.length
    · have hkl : k < s.length := by omega
      obtain ⟨c, hce, hcl⟩ : ∃ c : Nat, (ByteArray.mk s.toArray)[k].toNat = c ∧ c = s[k].toNat := ⟨_, rfl, rfl⟩
      obtain ⟨d, hde, hdl⟩ : ∃ c : Nat, (ByteArray.mk s.toArray)[k + 1].toNat = c ∧ c = s[k + 1].toNat := ⟨_, rfl, rfl⟩
      have HC := Lib.hid hcl
      have HD := Lib.hid hdl
      have hc256 : c < 256 := by rw [hcl]; exact s[k].toNat_lt
      have hd256 : d < 256 := by rw [hdl]; exact s[k + 1].toNat_lt
      have hix : ((k : Int) + 1).toNat = k + 1 := by omega
      clear hcl hdl
      by_cases h1 : c = 36
      · have e1 : ((c : Int) == 36) = true := by simp [h1]
        have f1 := byte_eq hkl 36 HC.out h1
        by_cases h2 : d = 40
        · have e2 : ((d : Int) == 40) = true := by simp [h2]
          have HH := Lib.hid ((hasC_iff s).2 ⟨k, f1, .inl (byte_eq hlt 40 HD.out h2)⟩)
          clear h1 h2 f1
          go_wp2
          go_ret
          exact ⟨ret_bool HH.out.symm, rfl⟩
        · have e2 : ((d : Int) == 40) = false := by simp; omega
          by_cases h3 : d = 41
          · have e3 : ((d : Int) == 41) = true := by simp [h3]
            have HH := Lib.hid ((hasC_iff s).2 ⟨k, f1, .inr (byte_eq hlt 41 HD.out h3)⟩)
            clear h1 h2 h3 f1
            go_wp2
            go_ret
            exact ⟨ret_bool HH.out.symm, rfl⟩
          · have e3 : ((d : Int) == 41) = false := by simp; omega
            have HX : Hid (¬ (s[k]? = some 36 ∧ (s[k + 1]? = some 40 ∨ s[k + 1]? = some 41))) := Lib.hid (fun h => h.2.elim (byte_ne hlt 40 HD.out h2) (byte_ne hlt 41 HD.out h3))
            clear h1 h2 h3 f1
            go_wp2
            go_round
            case rel => exact ⟨k + 1, by omega, by go_num, fun j hj => by
              by_cases e : j = k
              · subst e; exact HX.out
              · exact HN.out j (by omega)⟩
            case measure => simp [intOf]; omega
      · have e1 : ((c : Int) == 36) = false := by simp; omega
        have HX : Hid (¬ (s[k]? = some 36 ∧ (s[k + 1]? = some 40 ∨ s[k + 1]? = some 41))) := Lib.hid (fun h => byte_ne hkl 36 HC.out h1 h.1)
        clear h1
        go_wp2
        go_round
        case rel => exact ⟨k + 1, by omega, by go_num, fun j hj => by
          by_cases e : j = k
          · subst e; exact HX.out
          · exact HN.out j (by omega)⟩
        case measure => simp [intOf]; omega
    · have HH : Hid (hasC s = false) := Lib.hid (by
        rw [Bool.eq_false_iff]
        intro h
        obtain ⟨j, h1, h2⟩ := (hasC_iff s).1 h
        have hj : j + 1 < s.length := by rcases h2 with h2 | h2 <;> exact (List.getElem?_eq_some_iff.1 h2).1
        exact HN.out j (by omega) ⟨h1, h2⟩)
      go_wp2
      go_ret
      exact ⟨ret_bool HH.out.symm, rfl⟩
theorem infoRCom : (Tryd.prog.info? 140).map (fun i => (i.zero, i.size, i.bytes)) = some (some (.agg #[.string ⟨#[]⟩, .int .i64 0, .int .i64 0, .int .i64 0]), 4, 40) := by kernel_rfl
end Go.Proofs.YtpmbfcogkoiogaaDoor
end
