/- The reference of statements: Words. -/
import Derived.Test.YtpmbfcogkoiogaaDoorLayWordsA
namespace Go.Proofs.YtpmbfcogkoiogaaDoor
open Go.RowKit
/-- what the words of statements return -/
def AllPost (w : World) (r : List (List UInt8) × Int) (e : Ending) (w' : World) : Prop :=
  ∃ v, e = .returned (.tuple #[v, .int .i64 r.2]) ∧ Strs w' v r.1 ∧ Below w.heap.size w w'
theorem formed_kind {x : StmD} (h : formedS x = true) : 1 ≤ x.kind ∧ x.kind ≤ 9 := by
  rw [formedS_eq] at h
  simp only [Bool.and_eq_true] at h
  obtain ⟨⟨⟨h, -⟩, -⟩, -⟩ := h
  unfold okHead at h
  rw [Bool.and_eq_true] at h
  exact of_decide_eq_true h.1
theorem formed_len {x : StmD} (h : formedS x = true) : leastS x.kind ≤ x.text.length ∧ x.text.length ≤ mostS x.kind := by
  rw [formedS_eq] at h
  simp only [Bool.and_eq_true] at h
  obtain ⟨⟨⟨-, h⟩, -⟩, -⟩ := h
  unfold okLen at h
  rw [Bool.and_eq_true] at h
  exact of_decide_eq_true h.1
theorem formed_none {x : StmD} (h : formedS x = true) (h0 : mostS x.kind = 0) : x.text = [] := List.eq_nil_of_length_eq_zero (by have := formed_len h; omega)
theorem words_len {x : StmD} (h : formedS x = true) : (wordsS x).length ≤ x.proof.length + 204 := by
  have h1 := (formed_len h).2
  have h2 := mostS_le x.kind
  unfold wordsS
  simp only [List.length_append]
  have a1 : (if labS x.kind then [x.label] else []).length ≤ 1 := by split <;> simp
  have a2 : (if x.kind = 7 then [36, 61] :: x.proof else []).length ≤ x.proof.length + 1 := by split <;> simp
  have a3 : (if mostS x.kind = 0 then [] else [([36, 46] : List UInt8)]).length ≤ 1 := by split <;> simp
  simp only [List.length_cons, List.length_nil]
  omega
/-- statements that are not too long -/
def StmOk (x : StmD) : Prop := x.label.length ≤ maxLen ∧ (∀ u ∈ x.text, u.length ≤ maxLen) ∧ (∀ u ∈ x.proof, u.length ≤ maxLen) ∧ x.proof.length ≤ 10000
theorem allW_full {l : List StmD} (h : 2000 < l.length) : allW l = ([], 8) := by unfold allW; rw [if_pos h]
theorem allW_bad {l : List StmD} (h : ¬ 2000 < l.length) (h2 : l.all formedS = false) : allW l = ([], 2) := by unfold allW; rw [if_neg h, h2]; rfl
theorem allW_long {l : List StmD} (h : ¬ 2000 < l.length) (h2 : l.all formedS = true) (h3 : 8000 < (l.flatMap wordsS).length) : allW l = ([], 4) := by unfold allW; rw [if_neg h, if_pos h2, if_pos h3]
theorem allW_ok {l : List StmD} (h : ¬ 2000 < l.length) (h2 : l.all formedS = true) (h3 : ¬ 8000 < (l.flatMap wordsS).length) : allW l = (l.flatMap wordsS, 0) := by unfold allW; rw [if_neg h, if_pos h2, if_neg h3]
theorem all_take_next {l : List StmD} {k : Nat} {y : StmD} (hy : l[k]? = some y) (h : ∀ x ∈ l.take k, formedS x = true) (h1 : formedS y = true) : ∀ x ∈ l.take (k + 1), formedS x = true := all_snoc (p := fun x => formedS x = true) hy h h1
theorem flat_next {l : List StmD} {k : Nat} {y : StmD} (hy : l[k]? = some y) : (l.take (k + 1)).flatMap wordsS = (l.take k).flatMap wordsS ++ wordsS y := by
  obtain ⟨hk, rfl⟩ := List.getElem?_eq_some_iff.1 hy
  rw [List.take_succ_eq_append_getElem hk, List.flatMap_append]
  simp
theorem flat_len {l : List StmD} {k : Nat} (h : ∀ x ∈ l.take k, formedS x = true) (ho : ∀ x ∈ l, StmOk x) : ((l.take k).flatMap wordsS).length ≤ k * 10204 := by
  induction k with
  | zero => simp
  | succ k ih =>
    by_cases hk : k < l.length
    · have hy : l[k]? = some l[k] := List.getElem?_eq_getElem hk
      rw [flat_next hy, List.length_append]
      have h1 : l[k] ∈ l.take (k + 1) := by
        rw [List.take_succ_eq_append_getElem hk]
        exact List.mem_append.2 (.inr (List.mem_singleton.2 rfl))
      have h2 := words_len (h _ h1)
      have h3 := (ho _ (List.getElem_mem hk)).2.2.2
      have h4 := ih fun x hx => h x (by rw [List.take_succ_eq_append_getElem hk]; exact List.mem_append.2 (.inl hx))
      omega
    · rw [List.take_of_length_le (by omega)] at h ⊢
      have := ih (fun x hx => h x (List.mem_of_mem_take hx))
      rw [List.take_of_length_le (by omega)] at this
      exact Nat.le_trans this (Nat.mul_le_mul_right _ (Nat.le_succ k))
set_option maxRecDepth 100000 in
set_option maxHeartbeats 8000000 in
theorem ref_all (w : World) (v : Value) (l : List StmD) (hv : Stms w v l) (ho : ∀ x ∈ l, StmOk x) :
    Calls Tryd.prog 15 #[v] w (AllPost w (allW l)) := by
  obtain ⟨A, c, rfl, hc, hm, hx⟩ := hv.open_
  unfold maxLen at hm
  have HV := Lib.hid hv
  have HO := Lib.hid ho
  have HXX := Lib.hid hx
  clear hv hx ho
  by_cases h2 : 2000 < l.length
  · have e2 : decide ((2000 : Int) < (l.length : Int)) = true := decide_eq_true (by omega)
    rw [allW_full h2]
    clear h2
    go_enter Tryd.func15, Tryd.ntmps15
    go_wp2
    go_ret2
    exact ⟨_, rfl, Rds.nil_, Below.refl _ _⟩
  have e2 : decide ((2000 : Int) < (l.length : Int)) = false := decide_eq_false (by omega)
  obtain ⟨R, hR⟩ : ∃ R, allW l = R := ⟨_, rfl⟩
  rw [hR]
  have HR := Lib.hid hR
  have H2 := Lib.hid h2
  have hl2 : l.length ≤ 2000 := by omega
  clear hR h2
  go_enter Tryd.func15, Tryd.ntmps15
  go_wp2
  go_loopw [4] (fun v4 wr => ∃ k : Nat, k ≤ l.length ∧ v4 = .int .i64 k ∧ (∀ y ∈ l.take k, formedS y = true) ∧ Below w.heap.size w wr) (fun v4 _ => l.length - (intOf v4).toNat)
  case atStart => exact ⟨0, Nat.zero_le _, rfl, by simp, Below.refl _ _⟩
  case round =>
    obtain ⟨k, hk, rfl, hn, hb⟩ := hrel
    have HN := Lib.hid hn
    have HB := Lib.hid hb
    clear hn hb
    by_cases hlt : k < l.length
    · obtain ⟨y, hy⟩ : ∃ y, l[k]? = some y := ⟨_, List.getElem?_eq_getElem hlt⟩
      obtain ⟨b, o, tv, pv, rfl, g0, g1, g2, g3, hT, hP⟩ := HXX.out k y hy
      have hlb := block_lt_of_cell g0
      obtain ⟨T1, d1, rfl, -⟩ := hT.open_
      obtain ⟨P1, d2, rfl, -⟩ := hP.open_
      have q0 : wr.cell? ⟨b, o + k * 4, none⟩ = some (.int .i64 y.kind) := (HB.out.cell (p := ⟨b, o + k * 4, none⟩) hlb).trans g0
      have q1 : wr.cell? ⟨b, o + k * 4 + 1, none⟩ = some (.string ⟨y.label.toArray⟩) := (HB.out.cell (p := ⟨b, o + k * 4 + 1, none⟩) hlb).trans g1
      have q2 : wr.cell? ⟨b, o + k * 4 + 2, none⟩ = some (.slice T1 y.text.length d1) := (HB.out.cell (p := ⟨b, o + k * 4 + 2, none⟩) hlb).trans g2
      have q3 : wr.cell? ⟨b, o + k * 4 + 3, none⟩ = some (.slice P1 y.proof.length d2) := (HB.out.cell (p := ⟨b, o + k * 4 + 3, none⟩) hlb).trans g3
      have hbl : b < wr.heap.size := Nat.lt_of_lt_of_le hlb HB.out.size
      have HY := Lib.hid hy
      have HT := Lib.hid hT
      have HP := Lib.hid hP
      have HOK := Lib.hid (HO.out y (List.mem_of_getElem? hy))
      obtain ⟨q, hq⟩ : ∃ q, formedS y = q := ⟨_, rfl⟩
      have HQ := Lib.hid hq
      clear hq hy hT hP g0 g1 g2 g3
      cases q with
      | true =>
        have HNN := Lib.hid (all_take_next HY.out HN.out HQ.out)
        go_wp2_with (go_at_call 43; (refine (ref_formed _ y _ _ (Strs.below HT.out HB.out) (Strs.below HP.out HB.out) HOK.out.1 HOK.out.2.1 HOK.out.2.2.1).mono ?_; rw [HQ.out]; rintro e w2 ⟨rfl, hb2⟩))
        go_roundw
        case rel => exact ⟨k + 1, by omega, by go_num, HNN.out, then_ HB.out hb2⟩
        case measure => simp [intOf]; omega
      | false =>
        have HF : Hid (R = ([], 2)) := Lib.hid (by
          rw [← HR.out]
          refine allW_bad H2.out ?_
          rw [List.all_eq_false]
          exact ⟨y, List.mem_of_getElem? HY.out, by rw [HQ.out]; decide⟩)
        go_wp2_with (go_at_call 43; (refine (ref_formed _ y _ _ (Strs.below HT.out HB.out) (Strs.below HP.out HB.out) HOK.out.1 HOK.out.2.1 HOK.out.2.2.1).mono ?_; rw [HQ.out]; rintro e w2 ⟨rfl, hb2⟩))
        go_ret2
        rw [HF.out]
        exact ⟨_, rfl, Rds.nil_, then_ HB.out hb2⟩
    · have HAF : Hid (l.all formedS = true) := Lib.hid (List.all_eq_true.2 (all_of_take (by omega) HN.out))
      have HAX : Hid (∀ x ∈ l, formedS x = true) := Lib.hid (all_of_take (by omega) HN.out)
      go_wp2_with fail
      have HO0 : Hid (OutAt w (wr.alloc (.cells #[] 9)) (.slice (some ⟨wr.heap.size, 0, none⟩) 0 0) []) := Lib.hid ⟨by
        have h1 := World.ownsRow_made (base := w.heap.size) (e := 9) (size := 1) wr #[] 0 HB.out.size (by decide) (by simp)
        simpa [strC] using h1, new_ HB.out _⟩
      go_loopw [5, 6] (fun v5 v6 wq => ∃ (j : Nat) (L : List (List UInt8)) (A5 : Option Addr) (c5 : Nat), j ≤ l.length ∧ v6 = .int .i64 j ∧ v5 = .slice A5 L.length c5 ∧ (l.take j).flatMap wordsS = L ∧ OutAt w wq v5 L) (fun _ v6 _ => l.length - (intOf v6).toNat)
      case atStart => exact ⟨0, [], _, _, Nat.zero_le _, rfl, rfl, by simp, HO0.out⟩
      case round =>
        obtain ⟨j, L, A5, c5, hj, rfl, rfl, hL, hout⟩ := hrel
        have HL := Lib.hid hL
        have HOUT := Lib.hid hout
        have bL : L.length ≤ j * 10204 := by rw [← hL]; exact flat_len (fun x hx => HAX.out x (List.mem_of_mem_take hx)) HO.out
        have bL2 : L.length ≤ 30000000 := by have : j * 10204 ≤ 2000 * 10204 := Nat.mul_le_mul_right _ (by omega); omega
        clear hL hout bL HO0
        by_cases hlt2 : j < l.length
        · obtain ⟨y, hy⟩ : ∃ y, l[j]? = some y := ⟨_, List.getElem?_eq_getElem hlt2⟩
          obtain ⟨b, o, tv, pv, rfl, g0, g1, g2, g3, hT, hP⟩ := HXX.out j y hy
          have hlb := block_lt_of_cell g0
          obtain ⟨T1, d1, rfl, -⟩ := hT.open_
          obtain ⟨P1, d2, rfl, -⟩ := hP.open_
          have q0 : wr.cell? ⟨b, o + j * 4, none⟩ = some (.int .i64 y.kind) := (HOUT.out.below.cell (p := ⟨b, o + j * 4, none⟩) hlb).trans g0
          have q1 : wr.cell? ⟨b, o + j * 4 + 1, none⟩ = some (.string ⟨y.label.toArray⟩) := (HOUT.out.below.cell (p := ⟨b, o + j * 4 + 1, none⟩) hlb).trans g1
          have q2 : wr.cell? ⟨b, o + j * 4 + 2, none⟩ = some (.slice T1 y.text.length d1) := (HOUT.out.below.cell (p := ⟨b, o + j * 4 + 2, none⟩) hlb).trans g2
          have q3 : wr.cell? ⟨b, o + j * 4 + 3, none⟩ = some (.slice P1 y.proof.length d2) := (HOUT.out.below.cell (p := ⟨b, o + j * 4 + 3, none⟩) hlb).trans g3
          have hbl : b < wr.heap.size := Nat.lt_of_lt_of_le hlb HOUT.out.below.size
          have HY := Lib.hid hy
          have HT := Lib.hid hT
          have HP := Lib.hid hP
          have HOK := Lib.hid (HO.out y (List.mem_of_getElem? hy))
          have HFY := Lib.hid (HAX.out y (List.mem_of_getElem? hy))
          have hn9 : (wordsS y).length ≤ 10204 := by have h1 := words_len HFY.out; have h2 := HOK.out.2.2.2; omega
          have ht9 : y.text.length ≤ 1000000 := by have h1 := (formed_len HFY.out).2; have h2 := mostS_le y.kind; omega
          have hp9 : y.proof.length ≤ 1000000 := by have h2 := HOK.out.2.2.2; omega
          obtain ⟨Y, hYY⟩ : ∃ Y, wordsS y = Y := ⟨_, rfl⟩
          rw [hYY] at hn9
          have HWY := Lib.hid hYY
          clear hy hT hP g0 g1 g2 g3 hYY
          obtain ⟨i9, ki, k0, kk1, k2⟩ := info_parts infoStr
          go_wp2_with fail
          refine (ref_words _ y _ _ (Strs.below HT.out HOUT.out.below) (Strs.below HP.out HOUT.out.below) (formed_kind HFY.out) (formed_none HFY.out) ht9 hp9).mono ?_
          rw [HWY.out]
          rintro e w2 ⟨v9, rfl, hv9, hb2⟩
          obtain ⟨A9, c9, rfl, -⟩ := hv9.open_
          have HO9 := Lib.hid (HOUT.out.next hb2)
          have HV9 := Lib.hid hv9
          clear hv9 hb2
          go_wp2_with (at_builtin; (refine wpList_append_rds rfl (.tmp 29) (.tmp 34) 22 rfl w.heap.size 9 i9 (.string ⟨#[]⟩) 1 16 Tryd.underlying22 ki k0 kk1 k2 rfl (by decide) (.slice A5 L.length c5) L.length (strC L) (by rfl) HO9.out.own (.slice A9 Y.length c9) Y.length (strC Y) (by rfl) HV9.out (strC_one _) (by unfold maxLen; omega) (by omega) HO9.out.below.size ?_; intro V6 W6 ho6 hg6; have HO6 := Lib.hid (HO9.out.more ho6 hg6); clear ho6 hg6; obtain ⟨LY, hLY⟩ : ∃ LY, L ++ Y = LY := ⟨_, rfl⟩; rw [hLY] at HO6; have HLY := Lib.hid hLY; clear hLY; obtain ⟨A6, c6, rfl⟩ := HO6.out.form))
          go_roundw
          case rel => exact ⟨j + 1, LY, A6, c6, by omega, by go_num, rfl, by rw [flat_next HY.out, HL.out, HWY.out, HLY.out], HO6.out⟩
          case measure => simp [intOf]; omega
        · have HLL : Hid (l.flatMap wordsS = L) := Lib.hid (by have := HL.out; rw [List.take_of_length_le (by omega)] at this; exact this)
          by_cases h8 : 8000 < L.length
          · have e8 : decide ((8000 : Int) < (L.length : Int)) = true := decide_eq_true (by omega)
            have HF : Hid (R = ([], 4)) := Lib.hid (by rw [← HR.out]; exact allW_long H2.out HAF.out (by rw [HLL.out]; exact h8))
            clear h8
            go_wp2
            go_ret2
            rw [HF.out]
            exact ⟨_, rfl, Rds.nil_, HOUT.out.below⟩
          · have e8 : decide ((8000 : Int) < (L.length : Int)) = false := decide_eq_false (by omega)
            have HF : Hid (R = (L, 0)) := Lib.hid (by rw [← HR.out, allW_ok H2.out HAF.out (by rw [HLL.out]; exact h8), HLL.out])
            clear h8
            go_wp2
            go_ret2
            rw [HF.out]
            exact ⟨_, rfl, HOUT.out.strs, HOUT.out.below⟩
end Go.Proofs.YtpmbfcogkoiogaaDoor
