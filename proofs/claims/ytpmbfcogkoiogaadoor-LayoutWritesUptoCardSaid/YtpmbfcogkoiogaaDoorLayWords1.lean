/- The reference of statements: Formed. -/
import Derived.Test.YtpmbfcogkoiogaaDoorLayStA
namespace Go.Proofs.YtpmbfcogkoiogaaDoor
open Go.RowKit
/-- what is asked of a statement's kind and label -/
def okHead (x : StmD) : Bool := decide (1 ≤ x.kind ∧ x.kind ≤ 9) && (if labS x.kind then labB x.label else x.label == [])
/-- what is asked of the numbers of its words -/
def okLen (x : StmD) : Bool := decide (leastS x.kind ≤ x.text.length ∧ x.text.length ≤ mostS x.kind) && (x.kind == 7 || x.proof == [])
theorem formedS_eq (x : StmD) : formedS x = (okHead x && okLen x && x.text.all symB && x.proof.all prfS) := by
  unfold formedS okHead okLen symB labB
  generalize decide (1 ≤ x.kind ∧ x.kind ≤ 9) = a
  generalize (if labS x.kind = true then decide (onlyS x.label [2]) else x.label == []) = b
  generalize decide (leastS x.kind ≤ x.text.length ∧ x.text.length ≤ mostS x.kind) = c
  generalize (x.text.all fun w => decide (onlyS w [2, 3])) = d
  generalize x.proof.all prfS = e
  generalize (x.kind == 7 || x.proof == []) = f
  cases a <;> cases b <;> cases c <;> cases d <;> cases e <;> cases f <;> rfl
theorem all_snoc_false {l : List (List UInt8)} {p : List UInt8 → Bool} {k : Nat} {y : List UInt8} (hy : l[k]? = some y) (h : p y = false) : l.all p = false := by
  rw [List.all_eq_false]
  exact ⟨y, List.mem_of_getElem? hy, by rw [h]; decide⟩
set_option maxRecDepth 100000 in
set_option maxHeartbeats 8000000 in
theorem ref_formed (w : World) (x : StmD) (tv pv : Value) (hT : Strs w tv x.text) (hP : Strs w pv x.proof) (hl : x.label.length ≤ maxLen) (hsT : ∀ u ∈ x.text, u.length ≤ maxLen) (hsP : ∀ u ∈ x.proof, u.length ≤ maxLen) :
    Calls Tryd.prog 43 #[stmV x.kind x.label tv pv] w fun e w' => e = .returned (.bool (formedS x)) ∧ Below w.heap.size w w' := by
  obtain ⟨kz, l, tx, px⟩ := x
  dsimp only at hT hP hl hsT hsP ⊢
  obtain ⟨T1, d1, rfl, hd1, hm1, hxT⟩ := hT.open_
  obtain ⟨P1, d2, rfl, hd2, hm2, hxP⟩ := hP.open_
  unfold maxLen at hm1 hm2
  have HR : Hid (formedS ⟨kz, l, tx, px⟩ = (okHead ⟨kz, l, tx, px⟩ && okLen ⟨kz, l, tx, px⟩ && tx.all symB && px.all prfS)) := Lib.hid (formedS_eq _)
  obtain ⟨res, hres⟩ : ∃ r, formedS ⟨kz, l, tx, px⟩ = r := ⟨_, rfl⟩
  rw [hres] at HR ⊢
  clear hres
  obtain ⟨W1, hW1⟩ : ∃ W1, W1 = w.alloc (.cells #[.int .i64 kz, .string ⟨l.toArray⟩, .slice T1 tx.length d1, .slice P1 px.length d2] 34) := ⟨_, rfl⟩
  have hb1 : Below w.heap.size w W1 := by rw [hW1]; exact new_ (Below.refl _ _) _
  have rX : Row W1 w.heap.size 34 #[.int .i64 kz, .string ⟨l.toArray⟩, .slice T1 tx.length d1, .slice P1 px.length d2] := by rw [hW1]; exact Row.new _ _ _
  have HX := Lib.hid rX
  have HB := Lib.hid hb1
  have HXT := Lib.hid hxT
  have HXP := Lib.hid hxP
  have HL := Lib.hid hl
  have HST := Lib.hid hsT
  have HSP := Lib.hid hsP
  have HW1 := Lib.hid hW1
  clear hT hP hxT hxP hl hsT hsP hW1 rX hb1
  have q0 := HX.out.cell (i := 0) (v := .int .i64 kz) rfl
  have q1 := HX.out.cell (i := 1) (v := .string ⟨l.toArray⟩) rfl
  have q2 := HX.out.cell (i := 2) (v := .slice T1 tx.length d1) rfl
  have q3 := HX.out.cell (i := 3) (v := .slice P1 px.length d2) rfl
  have lx := HX.out.lt
  by_cases hk : 1 ≤ kz ∧ kz ≤ 9
  case neg =>
    have HF : Hid (res = false) := Lib.hid (by
      rw [HR.out, show okHead ⟨kz, l, tx, px⟩ = false by unfold okHead; rw [decide_eq_false hk]; rfl]
      rfl)
    unfold stmV
    by_cases h1 : kz < 1
    · have e1 : decide (kz < 1) = true := decide_eq_true h1
      clear h1 hk
      go_enter Tryd.func43, Tryd.ntmps43
      go_wp2_with fail
      rw [← HW1.out]
      go_quiet (fail)
      go_wp2_with fail
      go_ret
      exact ⟨ret_bool HF.out.symm, below_drewN HB.out _⟩
    · have e1 : decide (kz < 1) = false := decide_eq_false h1
      have e2 : decide (9 < kz) = true := decide_eq_true (by omega)
      clear h1 hk
      go_enter Tryd.func43, Tryd.ntmps43
      go_wp2_with fail
      rw [← HW1.out]
      go_quiet (fail)
      go_wp2_with fail
      go_ret
      exact ⟨ret_bool HF.out.symm, below_drewN HB.out _⟩
  have e1 : decide (kz < 1) = false := decide_eq_false (by omega)
  have e2 : decide (9 < kz) = false := decide_eq_false (by omega)
  have HKR : Hid (decide (1 ≤ kz ∧ kz ≤ 9) = true) := Lib.hid (decide_eq_true hk)
  clear hk
  obtain ⟨lb, hlb⟩ : ∃ b, labS kz = b := ⟨_, rfl⟩
  obtain ⟨bl, hbl⟩ : ∃ b, labB l = b := ⟨_, rfl⟩
  obtain ⟨be, hbe⟩ : ∃ b, (l == []) = b := ⟨_, rfl⟩
  have hbe2 : l.isEmpty = be := by rw [← hbe]; cases l <;> rfl
  have hbe3 : (!l.isEmpty) = !be := by rw [hbe2]
  have HLB := Lib.hid hlb
  have HBL := Lib.hid hbl
  have HHD : Hid (okHead ⟨kz, l, tx, px⟩ = if lb then bl else be) := Lib.hid (by unfold okHead; dsimp only; rw [HKR.out, hlb, hbl, hbe]; rfl)
  have hno : be = true → bl = false := by
    rintro rfl
    have : l = [] := by simpa using hbe
    rw [← hbl, this]
    decide
  clear hlb hbl
  unfold stmV
  by_cases hh : (if lb then bl else be) = true
  case neg =>
    have HF : Hid (res = false) := Lib.hid (by rw [HR.out, HHD.out]; cases lb <;> cases bl <;> cases be <;> simp at hh ⊢)
    cases lb <;> cases bl <;> cases be
    all_goals
      first
      | (exfalso; exact hh rfl)
      | (clear hh hno
         go_enter Tryd.func43, Tryd.ntmps43
         go_wp2_with fail
         rw [← HW1.out]
         go_quiet ((first | (go_at_call 80; exact Calls.quiet_of_same ((ref_labelled _ _).mono fun _ _ h => ⟨by rw [h.1, HLB.out], h.2.symm⟩)) | (go_at_call 82; exact Calls.quiet_of_same ((ref_isLab _ l HL.out).mono fun _ _ h => ⟨by rw [h.1, HBL.out], h.2.symm⟩))))
         go_wp2_with fail
         go_ret
         exact ⟨ret_bool HF.out.symm, below_drewN HB.out _⟩)
  obtain ⟨c1, hc1⟩ : ∃ b, decide (tx.length < leastS kz) = b := ⟨_, rfl⟩
  obtain ⟨c2, hc2⟩ : ∃ b, decide (mostS kz < tx.length) = b := ⟨_, rfl⟩
  obtain ⟨c3, hc3⟩ : ∃ b, decide (0 < px.length) = b := ⟨_, rfl⟩
  obtain ⟨c4, hc4⟩ : ∃ b, (kz == 7) = b := ⟨_, rfl⟩
  have hc5 : (kz != 7) = !c4 := by rw [← hc4]; rfl
  have hc3' : decide ((0 : Int) < (px.length : Int)) = c3 := by rw [← hc3, decide_eq_decide]; omega
  have hc1' : decide ((tx.length : Int) < (leastS kz : Nat)) = c1 := by rw [← hc1, decide_eq_decide]; omega
  have hc2' : decide ((mostS kz : Int) < (tx.length : Nat)) = c2 := by rw [← hc2, decide_eq_decide]; omega
  have HLN : Hid (okLen ⟨kz, l, tx, px⟩ = (!c1 && !c2 && !(c3 && !c4))) := Lib.hid (by
    unfold okLen
    dsimp only
    rw [hc4, ← hc1, ← hc2, ← hc3]
    have e1 : (px == []) = !decide (0 < px.length) := by cases px <;> rfl
    rw [e1, Bool.decide_and]
    congr 1
    · congr 1
      · rw [Bool.eq_iff_iff]; simp
      · rw [Bool.eq_iff_iff]; simp
    · cases c4 <;> cases decide (0 < px.length) <;> rfl)
  have HOK : Hid (res = (okLen ⟨kz, l, tx, px⟩ && tx.all symB && px.all prfS)) := Lib.hid (by rw [HR.out, HHD.out, hh, Bool.true_and])
  obtain ⟨i0, ki, k0, k1, k2⟩ := info_parts infoStm
  cases lb <;> cases bl <;> cases be
  all_goals
    first
    | (exfalso; simp at hh; done)
    | (exfalso; exact absurd (hno rfl) (by decide))
    | skip
  all_goals
    clear hh hno
    go_enter Tryd.func43, Tryd.ntmps43
    go_wp2_with fail
    rw [← HW1.out]
    go_quiet ((first | (go_at_call 80; exact Calls.quiet_of_same ((ref_labelled _ _).mono fun _ _ h => ⟨by rw [h.1, HLB.out], h.2.symm⟩)) | (go_at_call 82; exact Calls.quiet_of_same ((ref_isLab _ l HL.out).mono fun _ _ h => ⟨by rw [h.1, HBL.out], h.2.symm⟩))))
    generalize hW9 : W1.drewN _ = W2
    have HD : Hid (Below W1.heap.size W1 W2) := Lib.hid (by rw [← hW9]; exact below_drewN (Below.refl _ _) _)
    replace HX := Lib.hid (HX.out.below HD.out lx)
    replace HB := Lib.hid (then_ HB.out HD.out)
    clear q0 q1 q2 q3 lx HD hW9 HW1
    have q0 := HX.out.cell (i := 0) (v := .int .i64 kz) rfl
    have q1 := HX.out.cell (i := 1) (v := .string ⟨l.toArray⟩) rfl
    have q2 := HX.out.cell (i := 2) (v := .slice T1 tx.length d1) rfl
    have q3 := HX.out.cell (i := 3) (v := .slice P1 px.length d2) rfl
    have lx := HX.out.lt
    go_wp2_with fail
    by_cases hln : (!c1 && !c2 && !(c3 && !c4)) = true
    case neg =>
      have HF : Hid (res = false) := Lib.hid (by rw [HOK.out, HLN.out, Bool.eq_false_iff.2 hln]; rfl)
      cases c1 <;> cases c2 <;> cases c3 <;> cases c4
      all_goals
        first
        | (exfalso; exact hln rfl)
        | (clear hln
           go_quiet ((first | (go_at_call 83; exact Calls.quiet_of_same ((ref_least _ _).mono fun _ _ h => ⟨h.1, h.2.symm⟩)) | (go_at_call 86; exact Calls.quiet_of_same ((ref_most _ _).mono fun _ _ h => ⟨h.1, h.2.symm⟩))))
           go_wp2_with fail
           go_ret
           exact ⟨ret_bool HF.out.symm, below_drewN HB.out _⟩)
    have HLT : Hid (res = (tx.all symB && px.all prfS)) := Lib.hid (by rw [HOK.out, HLN.out, hln, Bool.true_and])
    cases c1 <;> cases c2 <;> cases c3 <;> cases c4
    all_goals
      first
      | (exfalso; simp at hln; done)
      | skip
    all_goals
      clear hln
      go_quiet ((first | (go_at_call 83; exact Calls.quiet_of_same ((ref_least _ _).mono fun _ _ h => ⟨h.1, h.2.symm⟩)) | (go_at_call 86; exact Calls.quiet_of_same ((ref_most _ _).mono fun _ _ h => ⟨h.1, h.2.symm⟩))))
      generalize hW9 : W2.drewN _ = W3
      have HD : Hid (Below W2.heap.size W2 W3) := Lib.hid (by rw [← hW9]; exact below_drewN (Below.refl _ _) _)
      replace HX := Lib.hid (HX.out.below HD.out lx)
      replace HB := Lib.hid (then_ HB.out HD.out)
      clear q0 q1 q2 q3 lx HD hW9
      have q2 := HX.out.cell (i := 2) (v := .slice T1 tx.length d1) rfl
      have q3 := HX.out.cell (i := 3) (v := .slice P1 px.length d2) rfl
      have lx := HX.out.lt
      clear hc1 hc2 hc3 hc4 hc5 hc1' hc2' hc3' e1 e2
      go_wp2_with fail
      go_loop [3] (fun v3 => ∃ k : Nat, k ≤ tx.length ∧ v3 = .int .i64 k ∧ ∀ y ∈ tx.take k, symB y = true) (fun v => tx.length - (intOf v).toNat)
      case atStart => exact ⟨0, Nat.zero_le _, rfl, by simp⟩
      case round =>
        obtain ⟨k, hk, rfl, hn⟩ := hrel
        have HN := Lib.hid hn
        clear hn
        by_cases hlt : k < tx.length
        · obtain ⟨y, hy⟩ : ∃ y, tx[k]? = some y := ⟨_, List.getElem?_eq_getElem hlt⟩
          obtain ⟨b, o, rfl, g0⟩ := HXT.out k y hy
          have hlb := block_lt_of_cell g0
          have g1 : W3.cell? ⟨b, o + k, none⟩ = some (.string ⟨y.toArray⟩) := (HB.out.cell (p := ⟨b, o + k, none⟩) hlb).trans g0
          have HY := Lib.hid hy
          have HYL := Lib.hid (HST.out y (List.mem_of_getElem? hy))
          have hbl3 : b < W3.heap.size := Nat.lt_of_lt_of_le hlb HB.out.size
          obtain ⟨bs, hbs⟩ : ∃ bs, symB y = bs := ⟨_, rfl⟩
          have HBS := Lib.hid hbs
          clear hbs hy g0
          cases bs with
          | true =>
            have HNN := Lib.hid (all_snoc (p := fun y => symB y = true) HY.out HN.out HBS.out)
            go_wp2_with (go_at_call 85; (refine (ref_isSymbol _ y HYL.out).mono ?_; rw [HBS.out]; rintro e w9 ⟨rfl, rfl⟩))
            go_round
            case rel => exact ⟨k + 1, by omega, by go_num, HNN.out⟩
            case measure => simp [intOf]; omega
          | false =>
            have HF : Hid (res = false) := Lib.hid (by rw [HLT.out, all_snoc_false HY.out HBS.out, Bool.false_and])
            go_wp2_with (go_at_call 85; (refine (ref_isSymbol _ y HYL.out).mono ?_; rw [HBS.out]; rintro e w9 ⟨rfl, rfl⟩))
            go_ret
            exact ⟨ret_bool HF.out.symm, HB.out⟩
        · have HLP : Hid (res = px.all prfS) := Lib.hid (by
            rw [HLT.out, List.all_eq_true.2 (all_of_take (by omega) HN.out), Bool.true_and])
          go_wp2_with fail
          go_loop [4] (fun v4 => ∃ k : Nat, k ≤ px.length ∧ v4 = .int .i64 k ∧ ∀ y ∈ px.take k, prfS y = true) (fun v => px.length - (intOf v).toNat)
          case atStart => exact ⟨0, Nat.zero_le _, rfl, by simp⟩
          case round =>
            obtain ⟨k', hk', rfl, hn'⟩ := hrel
            have HN' := Lib.hid hn'
            clear hn'
            by_cases hlt' : k' < px.length
            · obtain ⟨y, hy⟩ : ∃ y, px[k']? = some y := ⟨_, List.getElem?_eq_getElem hlt'⟩
              obtain ⟨b, o, rfl, g0⟩ := HXP.out k' y hy
              have hlb := block_lt_of_cell g0
              have g1 : W3.cell? ⟨b, o + k', none⟩ = some (.string ⟨y.toArray⟩) := (HB.out.cell (p := ⟨b, o + k', none⟩) hlb).trans g0
              have HY := Lib.hid hy
              have HYL := Lib.hid (HSP.out y (List.mem_of_getElem? hy))
              have hbl3 : b < W3.heap.size := Nat.lt_of_lt_of_le hlb HB.out.size
              obtain ⟨bs, hbs⟩ : ∃ bs, prfS y = bs := ⟨_, rfl⟩
              have HBS := Lib.hid hbs
              clear hbs hy g0
              cases bs with
              | true =>
                have HNN := Lib.hid (all_snoc (p := fun y => prfS y = true) HY.out HN'.out HBS.out)
                go_wp2_with (go_at_call 84; (refine (ref_isProof _ y HYL.out).mono ?_; rw [HBS.out]; rintro e w9 ⟨rfl, rfl⟩))
                go_round
                case rel => exact ⟨k' + 1, by omega, by go_num, HNN.out⟩
                case measure => simp [intOf]; omega
              | false =>
                have HF : Hid (res = false) := Lib.hid (by rw [HLP.out, all_snoc_false HY.out HBS.out])
                go_wp2_with (go_at_call 84; (refine (ref_isProof _ y HYL.out).mono ?_; rw [HBS.out]; rintro e w9 ⟨rfl, rfl⟩))
                go_ret
                exact ⟨ret_bool HF.out.symm, HB.out⟩
            · have HF : Hid (res = true) := Lib.hid (by rw [HLP.out, List.all_eq_true.2 (all_of_take (by omega) HN'.out)])
              go_wp2
              go_ret
              exact ⟨ret_bool HF.out.symm, HB.out⟩
end Go.Proofs.YtpmbfcogkoiogaaDoor
