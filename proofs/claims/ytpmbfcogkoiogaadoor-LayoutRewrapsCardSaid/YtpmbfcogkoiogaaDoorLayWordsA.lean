/- The reference of statements: Formed. The program's statements: the words of a statement. (Printed by gen_laywords.py.) The reference of statements: the words of a statement. (Printed by gen_laywords.py.) -/
import Derived.Test.YtpmbfcogkoiogaaDoorLayStA
import Derived.Test.YtpmbfcogkoiogaaDoorAppA
import Derived.Test.YtpmbfcogkoiogaaDoorLayFnA
import Derived.Deep.CutRange
section
namespace Go.Proofs.YtpmbfcogkoiogaaDoor
open Go.RowKit
/-- what is asked of a statement's kind and label -/
def okHead (x : StmD) : Bool := decide (1 ≤ x.kind ∧ x.kind ≤ 9) && (if labS x.kind then labB x.label else x.label == [])
/-- what is asked of the numbers of its words -/
def okLen (x : StmD) : Bool := decide (leastS x.kind ≤ x.text.length ∧ x.text.length ≤ mostS x.kind) && (x.kind == 7 || x.proof == [])
theorem formedS_eq (x : StmD) : formedS x = (okHead x && okLen x && x.text.all symB && x.proof.all prfS) := by
  unfold formedS okHead okLen symB labB
  generalize decide (1 ≤ x.kind ∧ x.kind ≤ 9) = a
  generalize (if labS x.kind = true then decide (onlyS x.label [2]) else x.label == []) = b
  generalize decide (leastS x.kind ≤ x.text.length ∧ x.text.length ≤ mostS x.kind) = c
  generalize (x.text.all fun w => decide (onlyS w [2, 3])) = d
  generalize x.proof.all prfS = e
  generalize (x.kind == 7 || x.proof == []) = f
  cases a <;> cases b <;> cases c <;> cases d <;> cases e <;> cases f <;> rfl
theorem all_snoc_false {l : List (List UInt8)} {p : List UInt8 → Bool} {k : Nat} {y : List UInt8} (hy : l[k]? = some y) (h : p y = false) : l.all p = false := by
  rw [List.all_eq_false]
  exact ⟨y, List.mem_of_getElem? hy, by rw [h]; decide⟩
set_option maxRecDepth 100000 in
set_option maxHeartbeats 8000000 in
theorem ref_formed (w : World) (x : StmD) (tv pv : Value) (hT : Strs w tv x.text) (hP : Strs w pv x.proof) (hl : x.label.length ≤ maxLen) (hsT : ∀ u ∈ x.text, u.length ≤ maxLen) (hsP : ∀ u ∈ x.proof, u.length ≤ maxLen) :
    Calls Tryd.prog 43 #[stmV x.kind x.label tv pv] w fun e w' => e = .returned (.bool (formedS x)) ∧ Below w.heap.size w w' := by
  obtain ⟨kz, l, tx, px⟩ := x
  dsimp only at hT hP hl hsT hsP ⊢
  obtain ⟨T1, d1, rfl, hd1, hm1, hxT⟩ := hT.open_
  obtain ⟨P1, d2, rfl, hd2, hm2, hxP⟩ := hP.open_
  unfold maxLen at hm1 hm2
  have HR : Hid (formedS ⟨kz, l, tx, px⟩ = (okHead ⟨kz, l, tx, px⟩ && okLen ⟨kz, l, tx, px⟩ && tx.all symB && px.all prfS)) := Lib.hid (formedS_eq _)
  obtain ⟨res, hres⟩ : ∃ r, formedS ⟨kz, l, tx, px⟩ = r := ⟨_, rfl⟩
  rw [hres] at HR ⊢
  clear hres
  obtain ⟨W1, hW1⟩ : ∃ W1, W1 = w.alloc (.cells #[.int .i64 kz, .string ⟨l.toArray⟩, .slice T1 tx.length d1, .slice P1 px.length d2] 34) := ⟨_, rfl⟩
  have hb1 : Below w.heap.size w W1 := by rw [hW1]; exact new_ (Below.refl _ _) _
  have rX : Row W1 w.heap.size 34 #[.int .i64 kz, .string ⟨l.toArray⟩, .slice T1 tx.length d1, .slice P1 px.length d2] := by rw [hW1]; exact Row.new _ _ _
  have HX := Lib.hid rX
  have HB := Lib.hid hb1
  have HXT := Lib.hid hxT
  have HXP := Lib.hid hxP
  have HL := Lib.hid hl
  have HST := Lib.hid hsT
  have HSP := Lib.hid hsP
  have HW1 := Lib.hid hW1
  clear hT hP hxT hxP hl hsT hsP hW1 rX hb1
  have q0 := HX.out.cell (i := 0) (v := .int .i64 kz) rfl
  have q1 := HX.out.cell (i := 1) (v := .string ⟨l.toArray⟩) rfl
  have q2 := HX.out.cell (i := 2) (v := .slice T1 tx.length d1) rfl
  have q3 := HX.out.cell (i := 3) (v := .slice P1 px.length d2) rfl
  have lx := HX.out.lt
  by_cases hk : 1 ≤ kz ∧ kz ≤ 9
  case neg =>
    have HF : Hid (res = false) := Lib.hid (by
      rw [HR.out, show okHead ⟨kz, l, tx, px⟩ = false by unfold okHead; rw [decide_eq_false hk]; rfl]
      rfl)
    unfold stmV
    by_cases h1 : kz < 1
    · have e1 : decide (kz < 1) = true := decide_eq_true h1
      clear h1 hk
      go_enter Tryd.func43, Tryd.ntmps43
      go_wp2_with fail
      rw [← HW1.out]
      go_quiet (fail)
      go_wp2_with fail
      go_ret
      exact ⟨ret_bool HF.out.symm, below_drewN HB.out _⟩
    · have e1 : decide (kz < 1) = false := decide_eq_false h1
      have e2 : decide (9 < kz) = true := decide_eq_true (by omega)
      clear h1 hk
      go_enter Tryd.func43, Tryd.ntmps43
      go_wp2_with fail
      rw [← HW1.out]
      go_quiet (fail)
      go_wp2_with fail
      go_ret
      exact ⟨ret_bool HF.out.symm, below_drewN HB.out _⟩
  have e1 : decide (kz < 1) = false := decide_eq_false (by omega)
  have e2 : decide (9 < kz) = false := decide_eq_false (by omega)
  have HKR : Hid (decide (1 ≤ kz ∧ kz ≤ 9) = true) := Lib.hid (decide_eq_true hk)
  clear hk
  obtain ⟨lb, hlb⟩ : ∃ b, labS kz = b := ⟨_, rfl⟩
  obtain ⟨bl, hbl⟩ : ∃ b, labB l = b := ⟨_, rfl⟩
  obtain ⟨be, hbe⟩ : ∃ b, (l == []) = b := ⟨_, rfl⟩
  have hbe2 : l.isEmpty = be := by rw [← hbe]; cases l <;> rfl
  have hbe3 : (!l.isEmpty) = !be := by rw [hbe2]
  have HLB := Lib.hid hlb
  have HBL := Lib.hid hbl
  have HHD : Hid (okHead ⟨kz, l, tx, px⟩ = if lb then bl else be) := Lib.hid (by unfold okHead; dsimp only; rw [HKR.out, hlb, hbl, hbe]; rfl)
  have hno : be = true → bl = false := by
    rintro rfl
    have : l = [] := by simpa using hbe
    rw [← hbl, this]
    decide
  clear hlb hbl
  unfold stmV
  by_cases hh : (if lb then bl else be) = true
  case neg =>
    have HF : Hid (res = false) := Lib.hid (by rw [HR.out, HHD.out]; cases lb <;> cases bl <;> cases be <;> simp at hh ⊢)
    cases lb <;> cases bl <;> cases be
    all_goals
      first
      | (exfalso; exact hh rfl)
      | (clear hh hno
         go_enter Tryd.func43, Tryd.ntmps43
         go_wp2_with fail
         rw [← HW1.out]
         go_quiet ((first | (go_at_call 80; exact Calls.quiet_of_same ((ref_labelled _ _).mono fun _ _ h => ⟨by rw [h.1, HLB.out], h.2.symm⟩)) | (go_at_call 82; exact Calls.quiet_of_same ((ref_isLab _ l HL.out).mono fun _ _ h => ⟨by rw [h.1, HBL.out], h.2.symm⟩))))
         go_wp2_with fail
         go_ret
         exact ⟨ret_bool HF.out.symm, below_drewN HB.out _⟩)
  obtain ⟨c1, hc1⟩ : ∃ b, decide (tx.length < leastS kz) = b := ⟨_, rfl⟩
  obtain ⟨c2, hc2⟩ : ∃ b, decide (mostS kz < tx.length) = b := ⟨_, rfl⟩
  obtain ⟨c3, hc3⟩ : ∃ b, decide (0 < px.length) = b := ⟨_, rfl⟩
  obtain ⟨c4, hc4⟩ : ∃ b, (kz == 7) = b := ⟨_, rfl⟩
  have hc5 : (kz != 7) = !c4 := by rw [← hc4]; rfl
  have hc3' : decide ((0 : Int) < (px.length : Int)) = c3 := by rw [← hc3, decide_eq_decide]; omega
  have hc1' : decide ((tx.length : Int) < (leastS kz : Nat)) = c1 := by rw [← hc1, decide_eq_decide]; omega
  have hc2' : decide ((mostS kz : Int) < (tx.length : Nat)) = c2 := by rw [← hc2, decide_eq_decide]; omega
  have HLN : Hid (okLen ⟨kz, l, tx, px⟩ = (!c1 && !c2 && !(c3 && !c4))) := Lib.hid (by
    unfold okLen
    dsimp only
    rw [hc4, ← hc1, ← hc2, ← hc3]
    have e1 : (px == []) = !decide (0 < px.length) := by cases px <;> rfl
    rw [e1, Bool.decide_and]
    congr 1
    · congr 1
      · rw [Bool.eq_iff_iff]; simp
      · rw [Bool.eq_iff_iff]; simp
    · cases c4 <;> cases decide (0 < px.length) <;> rfl)
  have HOK : Hid (res = (okLen ⟨kz, l, tx, px⟩ && tx.all symB && px.all prfS)) := Lib.hid (by rw [HR.out, HHD.out, hh, Bool.true_and])
  obtain ⟨i0, ki, k0, k1, k2⟩ := info_parts infoStm
  cases lb <;> cases bl <;> cases be
  all_goals
    first
    | (exfalso; simp at hh; done)
    | (exfalso; exact absurd (hno rfl) (by decide))
    | skip
  all_goals
    clear hh hno
    go_enter Tryd.func43, Tryd.ntmps43
    go_wp2_with fail
    rw [← HW1.out]
    go_quiet ((first | (go_at_call 80; exact Calls.quiet_of_same ((ref_labelled _ _).mono fun _ _ h => ⟨by rw [h.1, HLB.out], h.2.symm⟩)) | (go_at_call 82; exact Calls.quiet_of_same ((ref_isLab _ l HL.out).mono fun _ _ h => ⟨by rw [h.1, HBL.out], h.2.symm⟩))))
    generalize hW9 : W1.drewN _ = W2
    have HD : Hid (Below W1.heap.size W1 W2) := Lib.hid (by rw [← hW9]; exact below_drewN (Below.refl _ _) _)
    replace HX := Lib.hid (HX.out.below HD.out lx)
    replace HB := Lib.hid (then_ HB.out HD.out)
    clear q0 q1 q2 q3 lx HD hW9 HW1
    have q0 := HX.out.cell (i := 0) (v := .int .i64 kz) rfl
    have q1 := HX.out.cell (i := 1) (v := .string ⟨l.toArray⟩) rfl
    have q2 := HX.out.cell (i := 2) (v := .slice T1 tx.length d1) rfl
    have q3 := HX.out.cell (i := 3) (v := .slice P1 px.length d2) rfl
    have lx := HX.out.lt
    go_wp2_with fail
    by_cases hln : (!c1 && !c2 && !(c3 && !c4)) = true
    case neg =>
      have HF : Hid (res = false) := Lib.hid (by rw [HOK.out, HLN.out, Bool.eq_false_iff.2 hln]; rfl)
      cases c1 <;> cases c2 <;> cases c3 <;> cases c4
      all_goals
        first
        | (exfalso; exact hln rfl)
        | (clear hln
           go_quiet ((first | (go_at_call 83; exact Calls.quiet_of_same ((ref_least _ _).mono fun _ _ h => ⟨h.1, h.2.symm⟩)) | (go_at_call 86; exact Calls.quiet_of_same ((ref_most _ _).mono fun _ _ h => ⟨h.1, h.2.symm⟩))))
           go_wp2_with fail
           go_ret
           exact ⟨ret_bool HF.out.symm, below_drewN HB.out _⟩)
    have HLT : Hid (res = (tx.all symB && px.all prfS)) := Lib.hid (by rw [HOK.out, HLN.out, hln, Bool.true_and])
    cases c1 <;> cases c2 <;> cases c3 <;> cases c4
    all_goals
      first
      | (exfalso; simp at hln; done)
      | skip
    all_goals
      clear hln
      go_quiet ((first | (go_at_call 83; exact Calls.quiet_of_same ((ref_least _ _).mono fun _ _ h => ⟨h.1, h.2.symm⟩)) | (go_at_call 86; exact Calls.quiet_of_same ((ref_most _ _).mono fun _ _ h => ⟨h.1, h.2.symm⟩))))
      generalize hW9 : W2.drewN _ = W3
      have HD : Hid (Below W2.heap.size W2 W3) := Lib.hid (by rw [← hW9]; exact below_drewN (Below.refl _ _) _)
      replace HX := Lib.hid (HX.out.below HD.out lx)
      replace HB := Lib.hid (then_ HB.out HD.out)
      clear q0 q1 q2 q3 lx HD hW9
      have q2 := HX.out.cell (i := 2) (v := .slice T1 tx.length d1) rfl
      have q3 := HX.out.cell (i := 3) (v := .slice P1 px.length d2) rfl
      have lx := HX.out.lt
      clear hc1 hc2 hc3 hc4 hc5 hc1' hc2' hc3' e1 e2
      go_wp2_with fail
      go_loop [3] (fun v3 => ∃ k : Nat, k ≤ tx.length ∧ v3 = .int .i64 k ∧ ∀ y ∈ tx.take k, symB y = true) (fun v => tx.length - (intOf v).toNat)
      case atStart => exact ⟨0, Nat.zero_le _, rfl, by simp⟩
      case round =>
        obtain ⟨k, hk, rfl, hn⟩ := hrel
        have HN := Lib.hid hn
        clear hn
        by_cases hlt : k < tx.length
        · obtain ⟨y, hy⟩ : ∃ y, tx[k]? = some y := ⟨_, List.getElem?_eq_getElem hlt⟩
          obtain ⟨b, o, rfl, g0⟩ := HXT.out k y hy
          have hlb := block_lt_of_cell g0
          have g1 : W3.cell? ⟨b, o + k, none⟩ = some (.string ⟨y.toArray⟩) := (HB.out.cell (p := ⟨b, o + k, none⟩) hlb).trans g0
          have HY := Lib.hid hy
          have HYL := Lib.hid (HST.out y (List.mem_of_getElem? hy))
          have hbl3 : b < W3.heap.size := Nat.lt_of_lt_of_le hlb HB.out.size
          obtain ⟨bs, hbs⟩ : ∃ bs, symB y = bs := ⟨_, rfl⟩
          have HBS := Lib.hid hbs
          clear hbs hy g0
          cases bs with
          | true =>
            have HNN := Lib.hid (all_snoc (p := fun y => symB y = true) HY.out HN.out HBS.out)
            go_wp2_with (go_at_call 85; (refine (ref_isSymbol _ y HYL.out).mono ?_; rw [HBS.out]; rintro e w9 ⟨rfl, rfl⟩))
            go_round
            case rel => exact ⟨k + 1, by omega, by go_num, HNN.out⟩
            case measure => simp [intOf]; omega
          | false =>
            have HF : Hid (res = false) := Lib.hid (by rw [HLT.out, all_snoc_false HY.out HBS.out, Bool.false_and])
            go_wp2_with (go_at_call 85; (refine (ref_isSymbol _ y HYL.out).mono ?_; rw [HBS.out]; rintro e w9 ⟨rfl, rfl⟩))
            go_ret
            exact ⟨ret_bool HF.out.symm, HB.out⟩
        · have HLP : Hid (res = px.all prfS) := Lib.hid (by
            rw [HLT.out, List.all_eq_true.2 (all_of_take (by omega) HN.out), Bool.true_and])
          go_wp2_with fail
          go_loop [4] (fun v4 => ∃ k : Nat, k ≤ px.length ∧ v4 = .int .i64 k ∧ ∀ y ∈ px.take k, prfS y = true) (fun v => px.length - (intOf v).toNat)
          case atStart => exact ⟨0, Nat.zero_le _, rfl, by simp⟩
          case round =>
            obtain ⟨k', hk', rfl, hn'⟩ := hrel
            have HN' := Lib.hid hn'
            clear hn'
            by_cases hlt' : k' < px.length
            · obtain ⟨y, hy⟩ : ∃ y, px[k']? = some y := ⟨_, List.getElem?_eq_getElem hlt'⟩
              obtain ⟨b, o, rfl, g0⟩ := HXP.out k' y hy
              have hlb := block_lt_of_cell g0
              have g1 : W3.cell? ⟨b, o + k', none⟩ = some (.string ⟨y.toArray⟩) := (HB.out.cell (p := ⟨b, o + k', none⟩) hlb).trans g0
              have HY := Lib.hid hy
              have HYL := Lib.hid (HSP.out y (List.mem_of_getElem? hy))
              have hbl3 : b < W3.heap.size := Nat.lt_of_lt_of_le hlb HB.out.size
              obtain ⟨bs, hbs⟩ : ∃ bs, prfS y = bs := ⟨_, rfl⟩
              have HBS := Lib.hid hbs
              clear hbs hy g0
              cases bs with
              | true =>
                have HNN := Lib.hid (all_snoc (p := fun y => prfS y = true) HY.out HN'.out HBS.out)
                go_wp2_with (go_at_call 84; (refine (ref_isProof _ y HYL.out).mono ?_; rw [HBS.out]; rintro e w9 ⟨rfl, rfl⟩))
                go_round
                case rel => exact ⟨k' + 1, by omega, by go_num, HNN.out⟩
                case measure => simp [intOf]; omega
              | false =>
                have HF : Hid (res = false) := Lib.hid (by rw [HLP.out, all_snoc_false HY.out HBS.out])
                go_wp2_with (go_at_call 84; (refine (ref_isProof _ y HYL.out).mono ?_; rw [HBS.out]; rintro e w9 ⟨rfl, rfl⟩))
                go_ret
                exact ⟨ret_bool HF.out.symm, HB.out⟩
            · have HF : Hid (res = true) := Lib.hid (by rw [HLP.out, List.all_eq_true.2 (all_of_take (by omega) HN'.out)])
              go_wp2
              go_ret
              exact ⟨ret_bool HF.out.symm, HB.out⟩
end Go.Proofs.YtpmbfcogkoiogaaDoor
end
section
namespace Go.Proofs.YtpmbfcogkoiogaaDoor
open Go.RowKit
set_option maxRecDepth 100000 in
set_option maxHeartbeats 8000000 in
theorem wordsOf_own (w : World) (x : StmD) (tv pv : Value) (hT : Strs w tv x.text) (hP : Strs w pv x.proof) (hk : 1 ≤ x.kind ∧ x.kind ≤ 9) (hn : x.text.length ≤ 1000000) (hp : x.proof.length ≤ 1000000) (hF : FormsAt w) :
    Calls Tryd.prog 42 #[stmV x.kind x.label tv pv] w fun e w' => ∃ v, e = .returned v ∧ OutAt w w' v (wordsS x) := by
  obtain ⟨kz, l, tx, px⟩ := x
  dsimp only at hT hP hk hn hp ⊢
  obtain ⟨k, rfl⟩ : ∃ k : Nat, kz = k := ⟨kz.toNat, by omega⟩
  obtain ⟨T1, d1, rfl, hd1, hm1, -⟩ := hT.open_
  obtain ⟨P1, d2, rfl, hd2, hm2, -⟩ := hP.open_
  have hk1 : 1 ≤ k := by omega
  have hk9 : k ≤ 9 := by omega
  obtain ⟨f0, f1, f2, f3⟩ := hF k hk9
  have lF := hF.lt
  rw [formL_pos hk1] at f2
  rw [formM_pos hk1] at f3
  obtain ⟨i9, ki, k0, kk1, k2⟩ := info_parts infoStr
  obtain ⟨kw, hkw⟩ : ∃ s, kwN k = s := ⟨_, rfl⟩
  obtain ⟨lb, hlb⟩ : ∃ b, labS k = b := ⟨_, rfl⟩
  rw [hkw] at f0
  rw [hlb] at f1
  have HKW : Hid (kwOf k = kw) := Lib.hid (by unfold kwOf; rw [Int.toNat_natCast, hkw])
  have HLB := Lib.hid hlb
  obtain ⟨W0, hW0⟩ : ∃ W0, W0 = (w.alloc (.cells #[.int .i64 k, .string ⟨l.toArray⟩, .slice T1 tx.length d1, .slice P1 px.length d2] 34)).alloc (.cells #[.string ⟨kw.toArray⟩, .bool lb, .int .i64 (leastS k : Nat), .int .i64 (mostS k : Nat)] 126) := ⟨_, rfl⟩
  have hb0 : Below w.heap.size w W0 := by rw [hW0]; exact new_ (new_ (Below.refl _ _) _) _
  have hX0 : Row W0 w.heap.size 34 #[.int .i64 k, .string ⟨l.toArray⟩, .slice T1 tx.length d1, .slice P1 px.length d2] := by rw [hW0]; exact (Row.new _ _ _).alloc _
  have hY0 : Row W0 (w.heap.size + 1) 126 #[.string ⟨kw.toArray⟩, .bool lb, .int .i64 (leastS k : Nat), .int .i64 (mostS k : Nat)] := by rw [hW0]; exact Row.new' _ _ _ (by simp)
  have HT := Lib.hid hT
  have HP := Lib.hid hP
  have HX0 := Lib.hid hX0
  have HY0 := Lib.hid hY0
  have HOZ : Hid (OutAt w W0 (.slice none 0 0) []) := Lib.hid ⟨own_nil _ _ _ _, hb0⟩
  have HW0 := Lib.hid hW0
  clear hT hP hX0 hY0 hW0 hb0 hk hF hkw hlb
  have qX0 := HX0.out.cell (i := 0) (v := .int .i64 k) rfl
  have qX1 := HX0.out.cell (i := 1) (v := .string ⟨l.toArray⟩) rfl
  have qX2 := HX0.out.cell (i := 2) (v := .slice T1 tx.length d1) rfl
  have qX3 := HX0.out.cell (i := 3) (v := .slice P1 px.length d2) rfl
  have lX := HX0.out.lt
  have qY0 := HY0.out.cell (i := 0) (v := .string ⟨kw.toArray⟩) rfl
  have qY1 := HY0.out.cell (i := 1) (v := .bool lb) rfl
  have qY2 := HY0.out.cell (i := 2) (v := .int .i64 (leastS k : Nat)) rfl
  have qY3 := HY0.out.cell (i := 3) (v := .int .i64 (mostS k : Nat)) rfl
  have lY := HY0.out.lt
  obtain ⟨c7, hc7⟩ : ∃ b, ((k : Int) == 7) = b := ⟨_, rfl⟩
  have HC7 := Lib.hid hc7
  obtain ⟨c0, hc0⟩ : ∃ b, decide ((0 : Int) < (mostS k : Int)) = b := ⟨_, rfl⟩
  have hc1 : decide (0 < mostS k) = c0 := by rw [← hc0, decide_eq_decide]; omega
  have HC0 := Lib.hid hc1
  have HQ : Hid (wordsS ⟨k, l, tx, px⟩ = (if lb then [l] else []) ++ [kw] ++ tx ++ (if c7 then [36, 61] :: px else []) ++ (if c0 then [[36, 46]] else [])) := Lib.hid (by
    unfold wordsS
    dsimp only
    rw [HLB.out, HKW.out]
    congr 1
    · congr 1
      cases c7
      · rw [if_neg (by simpa using HC7.out)]; rfl
      · rw [if_pos (by simpa using HC7.out)]; rfl
    · cases c0
      · rw [if_pos (by have := of_decide_eq_false HC0.out; omega)]; rfl
      · rw [if_neg (by have := of_decide_eq_true HC0.out; omega)]; rfl)
  unfold stmV
  cases lb with
  | false =>
    go_enter Tryd.func42, Tryd.ntmps42
    go_wp2_with fail
    rw [← HW0.out]
    go_region_held3 (fun w' => w'.cell? ⟨w.heap.size, 2, none⟩ = some (.slice T1 tx.length d1) ∧ w'.cell? ⟨w.heap.size + 1, 0, none⟩ = some (.string ⟨kw.toArray⟩)) (go_keep)
      (first
        | (refine step_append_rds rfl (.tmp 16) (.tmp 19) 22 rfl w.heap.size 9 i9 (.string ⟨#[]⟩) 1 16 Tryd.underlying22 ki k0 kk1 k2 rfl (by decide) (.slice none 0 0) 0 [] (by rfl) (ca_own_alloc HOZ.out.drew.own _) _ 1 [.string ⟨kw.toArray⟩] (by rfl) (Rds.lit (size := 1) _ 9 #[.string ⟨kw.toArray⟩] 1 rfl (by decide)) (by simp [Value.oneCell']) (by unfold maxLen; omega) (by omega) (new_ HOZ.out.drew.below _).size ?_; intro V5a W5a ho5a hg5a; have HO5a := Lib.hid (HOZ.out.drew.one (u := kw) ho5a hg5a); have HX5a := Lib.hid (HOZ.out.drew.row1 HX0.out.drew (by decide) hg5a); have HY5a := Lib.hid (HOZ.out.drew.row1 HY0.out.drew (by decide) hg5a); clear ho5a hg5a; have qX5a0 := HX5a.out.cell (i := 0) (v := .int .i64 k) rfl; have qX5a2 := HX5a.out.cell (i := 2) (v := .slice T1 tx.length d1) rfl; have qX5a3 := HX5a.out.cell (i := 3) (v := .slice P1 px.length d2) rfl; have lX5a := HX5a.out.lt; have qY5a0 := HY5a.out.cell (i := 0) (v := .string ⟨kw.toArray⟩) rfl; have qY5a3 := HY5a.out.cell (i := 3) (v := .int .i64 (mostS k : Nat)) rfl; have lY5a := HY5a.out.lt)
        | (refine step_append_rds rfl (.tmp 20) (.tmp 22) 22 rfl w.heap.size 9 i9 (.string ⟨#[]⟩) 1 16 Tryd.underlying22 ki k0 kk1 k2 rfl (by decide) V5a ([] ++ [kw]).length (strC ([] ++ [kw])) (by rfl) HO5a.out.own (.slice T1 tx.length d1) tx.length (strC tx) (by rfl) (HO5a.out.rds HT.out) (strC_one _) (by unfold maxLen; simp; omega) (by simp; omega) HO5a.out.below.size ?_; intro V5b W5b ho5b hg5b; have HO5b := Lib.hid (HO5a.out.more ho5b hg5b); have HX5b := Lib.hid (HO5a.out.row HX5a.out (by decide) hg5b); have HY5b := Lib.hid (HO5a.out.row HY5a.out (by decide) hg5b); clear ho5b hg5b; have qX5b0 := HX5b.out.cell (i := 0) (v := .int .i64 k) rfl; have qX5b2 := HX5b.out.cell (i := 2) (v := .slice T1 tx.length d1) rfl; have qX5b3 := HX5b.out.cell (i := 3) (v := .slice P1 px.length d2) rfl; have lX5b := HX5b.out.lt; have qY5b0 := HY5b.out.cell (i := 0) (v := .string ⟨kw.toArray⟩) rfl; have qY5b3 := HY5b.out.cell (i := 3) (v := .int .i64 (mostS k : Nat)) rfl; have lY5b := HY5b.out.lt))
    obtain ⟨L2, hL2⟩ : ∃ L, [] ++ [kw] ++ tx = L := ⟨_, rfl⟩
    have bL2 : L2.length ≤ tx.length + 2 := (by rw [← hL2]; simp <;> omega)
    rw [hL2] at HO5b
    have HL2 := Lib.hid hL2
    clear hL2
    obtain ⟨A2, c2, rfl⟩ := HO5b.out.form
    cases c7 with
    | false =>
      cases c0 with
      | false =>
        go_wp2_with fail
        go_ret
        exact ⟨_, rfl, by rw [HQ.out]; simp only [if_false, Bool.false_eq_true, List.append_nil]; rw [HL2.out]; exact HO5b.out⟩
      | true =>
        go_wp2_with (first
          | (at_builtin; (refine wpList_append_own _ rfl (.tmp 36) (.tmp 37) 22 rfl w.heap.size 9 i9 (.string ⟨#[]⟩) 1 16 Tryd.underlying22 ki k0 kk1 k2 rfl (by decide) (.slice A2 L2.length c2) L2.length (strC L2) (by rfl) (ca_own_alloc HO5b.out.own _) ⟨W5b.heap.size, 0, none⟩ 1 1 [.string ⟨#[36, 46]⟩] rfl rfl (cells_of' _ _ _ _ rfl rfl) (by simp [Value.oneCell']) (by unfold maxLen; omega) (by omega) (by have := HO5b.out.below.size; simp; omega) ?_; intro V3 W3 ho3 hg3 _; have HO3 := Lib.hid (HO5b.out.one ho3 hg3); clear ho3 hg3; obtain ⟨L3, hL3⟩ : ∃ L, L2 ++ [[36, 46]] = L := ⟨_, rfl⟩; have bL3 : L3.length ≤ tx.length + 3 := (by rw [← hL3]; simp <;> omega); rw [hL3] at HO3; have HL3 := Lib.hid hL3; clear hL3; obtain ⟨A3, c3, rfl⟩ := HO3.out.form)))
        go_ret
        exact ⟨_, rfl, by rw [HQ.out]; simp only [if_true, if_false, Bool.false_eq_true, List.append_nil]; rw [HL2.out, HL3.out]; exact HO3.out⟩
    | true =>
      go_wp2_with fail
      go_region_held3 (fun w' => w'.cell? ⟨w.heap.size, 3, none⟩ = some (.slice P1 px.length d2)) (go_keep)
        (first
          | (refine step_append_rds rfl (.tmp 27) (.tmp 28) 22 rfl w.heap.size 9 i9 (.string ⟨#[]⟩) 1 16 Tryd.underlying22 ki k0 kk1 k2 rfl (by decide) (.slice A2 L2.length c2) L2.length (strC L2) (by rfl) (ca_own_alloc HO5b.out.drew.own _) _ 1 [.string ⟨#[36, 61]⟩] (by rfl) (Rds.lit (size := 1) _ 9 #[.string ⟨#[36, 61]⟩] 1 rfl (by decide)) (by simp [Value.oneCell']) (by unfold maxLen; omega) (by omega) (new_ HO5b.out.drew.below _).size ?_; intro V7a W7a ho7a hg7a; have HO7a := Lib.hid (HO5b.out.drew.one (u := [36, 61]) ho7a hg7a); have HX7a := Lib.hid (HO5b.out.drew.row1 HX5b.out.drew (by decide) hg7a); have HY7a := Lib.hid (HO5b.out.drew.row1 HY5b.out.drew (by decide) hg7a); clear ho7a hg7a; have qX7a3 := HX7a.out.cell (i := 3) (v := .slice P1 px.length d2) rfl; have lX7a := HX7a.out.lt; have qY7a3 := HY7a.out.cell (i := 3) (v := .int .i64 (mostS k : Nat)) rfl; have lY7a := HY7a.out.lt)
          | (refine step_append_rds rfl (.tmp 29) (.tmp 31) 22 rfl w.heap.size 9 i9 (.string ⟨#[]⟩) 1 16 Tryd.underlying22 ki k0 kk1 k2 rfl (by decide) V7a (L2 ++ [[36, 61]]).length (strC (L2 ++ [[36, 61]])) (by rfl) HO7a.out.own (.slice P1 px.length d2) px.length (strC px) (by rfl) (HO7a.out.rds HP.out) (strC_one _) (by unfold maxLen; simp; omega) (by simp; omega) HO7a.out.below.size ?_; intro V7b W7b ho7b hg7b; have HO7b := Lib.hid (HO7a.out.more ho7b hg7b); have HX7b := Lib.hid (HO7a.out.row HX7a.out (by decide) hg7b); have HY7b := Lib.hid (HO7a.out.row HY7a.out (by decide) hg7b); clear ho7b hg7b; have qX7b3 := HX7b.out.cell (i := 3) (v := .slice P1 px.length d2) rfl; have lX7b := HX7b.out.lt; have qY7b3 := HY7b.out.cell (i := 3) (v := .int .i64 (mostS k : Nat)) rfl; have lY7b := HY7b.out.lt))
      obtain ⟨L4, hL4⟩ : ∃ L, L2 ++ [[36, 61]] ++ px = L := ⟨_, rfl⟩
      have bL4 : L4.length ≤ tx.length + px.length + 3 := (by rw [← hL4]; simp <;> omega)
      rw [hL4] at HO7b
      have HL4 := Lib.hid hL4
      clear hL4
      obtain ⟨A4, c4, rfl⟩ := HO7b.out.form
      cases c0 with
      | false =>
        exfalso
        have h1 := of_decide_eq_false HC0.out
        have h2 : (k : Int) = 7 := by simpa using HC7.out
        rw [h2] at h1
        exact h1 (by decide)
      | true =>
        go_wp2_with (first
          | (at_builtin; (refine wpList_append_own _ rfl (.tmp 36) (.tmp 37) 22 rfl w.heap.size 9 i9 (.string ⟨#[]⟩) 1 16 Tryd.underlying22 ki k0 kk1 k2 rfl (by decide) (.slice A4 L4.length c4) L4.length (strC L4) (by rfl) (ca_own_alloc HO7b.out.own _) ⟨W7b.heap.size, 0, none⟩ 1 1 [.string ⟨#[36, 46]⟩] rfl rfl (cells_of' _ _ _ _ rfl rfl) (by simp [Value.oneCell']) (by unfold maxLen; omega) (by omega) (by have := HO7b.out.below.size; simp; omega) ?_; intro V6 W6 ho6 hg6 _; have HO6 := Lib.hid (HO7b.out.one ho6 hg6); clear ho6 hg6; obtain ⟨L6, hL6⟩ : ∃ L, L4 ++ [[36, 46]] = L := ⟨_, rfl⟩; have bL6 : L6.length ≤ tx.length + px.length + 4 := (by rw [← hL6]; simp <;> omega); rw [hL6] at HO6; have HL6 := Lib.hid hL6; clear hL6; obtain ⟨A6, c6, rfl⟩ := HO6.out.form)))
        go_ret
        exact ⟨_, rfl, by rw [HQ.out]; simp only [if_true, if_false, Bool.false_eq_true]; rw [HL2.out, List.append_cons L2, HL4.out, HL6.out]; exact HO6.out⟩
  | true =>
    go_enter Tryd.func42, Tryd.ntmps42
    go_upto_region 3 with fail
    rw [← HW0.out]
    go_wp2_with (first
      | (at_builtin; (refine wpList_append_own _ rfl (.tmp 11) (.tmp 14) 22 rfl w.heap.size 9 i9 (.string ⟨#[]⟩) 1 16 Tryd.underlying22 ki k0 kk1 k2 rfl (by decide) (.slice none 0 0) 0 [] (by rfl) (ca_own_alloc HOZ.out.own _) ⟨W0.heap.size, 0, none⟩ 1 1 [.string ⟨l.toArray⟩] rfl rfl (cells_of' _ _ _ _ rfl rfl) (by simp [Value.oneCell']) (by unfold maxLen; omega) (by omega) (by have := HOZ.out.below.size; simp; omega) ?_; intro V9 W9 ho9 hg9 _; have HO9 := Lib.hid (HOZ.out.one ho9 hg9); have HX1 := Lib.hid (HOZ.out.row1 HX0.out (by decide) hg9); have HY1 := Lib.hid (HOZ.out.row1 HY0.out (by decide) hg9); clear ho9 hg9; obtain ⟨L9, hL9⟩ : ∃ L, [] ++ [l] = L := ⟨_, rfl⟩; have bL9 : L9.length ≤ 1 := (by rw [← hL9]; simp <;> omega); rw [hL9] at HO9; have HL9 := Lib.hid hL9; clear hL9; obtain ⟨A9, c9, rfl⟩ := HO9.out.form; clear qX0 qX1 qX2 qX3 qY0 qY1 qY2 qY3 lX lY; have qX0 := HX1.out.cell (i := 0) (v := .int .i64 k) rfl; have qX2 := HX1.out.cell (i := 2) (v := .slice T1 tx.length d1) rfl; have qX3 := HX1.out.cell (i := 3) (v := .slice P1 px.length d2) rfl; have lX := HX1.out.lt; have qY0 := HY1.out.cell (i := 0) (v := .string ⟨kw.toArray⟩) rfl; have qY3 := HY1.out.cell (i := 3) (v := .int .i64 (mostS k : Nat)) rfl; have lY := HY1.out.lt)))
    go_region_held3 (fun w' => w'.cell? ⟨w.heap.size, 2, none⟩ = some (.slice T1 tx.length d1) ∧ w'.cell? ⟨w.heap.size + 1, 0, none⟩ = some (.string ⟨kw.toArray⟩)) (go_keep)
      (first
        | (refine step_append_rds rfl (.tmp 16) (.tmp 19) 22 rfl w.heap.size 9 i9 (.string ⟨#[]⟩) 1 16 Tryd.underlying22 ki k0 kk1 k2 rfl (by decide) (.slice A9 L9.length c9) L9.length (strC L9) (by rfl) (ca_own_alloc HO9.out.drew.own _) _ 1 [.string ⟨kw.toArray⟩] (by rfl) (Rds.lit (size := 1) _ 9 #[.string ⟨kw.toArray⟩] 1 rfl (by decide)) (by simp [Value.oneCell']) (by unfold maxLen; omega) (by omega) (new_ HO9.out.drew.below _).size ?_; intro V5a W5a ho5a hg5a; have HO5a := Lib.hid (HO9.out.drew.one (u := kw) ho5a hg5a); have HX5a := Lib.hid (HO9.out.drew.row1 HX1.out.drew (by decide) hg5a); have HY5a := Lib.hid (HO9.out.drew.row1 HY1.out.drew (by decide) hg5a); clear ho5a hg5a; have qX5a0 := HX5a.out.cell (i := 0) (v := .int .i64 k) rfl; have qX5a2 := HX5a.out.cell (i := 2) (v := .slice T1 tx.length d1) rfl; have qX5a3 := HX5a.out.cell (i := 3) (v := .slice P1 px.length d2) rfl; have lX5a := HX5a.out.lt; have qY5a0 := HY5a.out.cell (i := 0) (v := .string ⟨kw.toArray⟩) rfl; have qY5a3 := HY5a.out.cell (i := 3) (v := .int .i64 (mostS k : Nat)) rfl; have lY5a := HY5a.out.lt)
        | (refine step_append_rds rfl (.tmp 20) (.tmp 22) 22 rfl w.heap.size 9 i9 (.string ⟨#[]⟩) 1 16 Tryd.underlying22 ki k0 kk1 k2 rfl (by decide) V5a (L9 ++ [kw]).length (strC (L9 ++ [kw])) (by rfl) HO5a.out.own (.slice T1 tx.length d1) tx.length (strC tx) (by rfl) (HO5a.out.rds HT.out) (strC_one _) (by unfold maxLen; simp; omega) (by simp; omega) HO5a.out.below.size ?_; intro V5b W5b ho5b hg5b; have HO5b := Lib.hid (HO5a.out.more ho5b hg5b); have HX5b := Lib.hid (HO5a.out.row HX5a.out (by decide) hg5b); have HY5b := Lib.hid (HO5a.out.row HY5a.out (by decide) hg5b); clear ho5b hg5b; have qX5b0 := HX5b.out.cell (i := 0) (v := .int .i64 k) rfl; have qX5b2 := HX5b.out.cell (i := 2) (v := .slice T1 tx.length d1) rfl; have qX5b3 := HX5b.out.cell (i := 3) (v := .slice P1 px.length d2) rfl; have lX5b := HX5b.out.lt; have qY5b0 := HY5b.out.cell (i := 0) (v := .string ⟨kw.toArray⟩) rfl; have qY5b3 := HY5b.out.cell (i := 3) (v := .int .i64 (mostS k : Nat)) rfl; have lY5b := HY5b.out.lt))
    obtain ⟨L2, hL2⟩ : ∃ L, L9 ++ [kw] ++ tx = L := ⟨_, rfl⟩
    have bL2 : L2.length ≤ tx.length + 2 := (by rw [← hL2]; simp <;> omega)
    rw [hL2] at HO5b
    have HL2 := Lib.hid hL2
    clear hL2
    obtain ⟨A2, c2, rfl⟩ := HO5b.out.form
    cases c7 with
    | false =>
      cases c0 with
      | false =>
        go_wp2_with fail
        go_ret
        exact ⟨_, rfl, by rw [HQ.out]; simp only [if_true, if_false, Bool.false_eq_true, List.append_nil]; rw [← List.nil_append [l], HL9.out, HL2.out]; exact HO5b.out⟩
      | true =>
        go_wp2_with (first
          | (at_builtin; (refine wpList_append_own _ rfl (.tmp 36) (.tmp 37) 22 rfl w.heap.size 9 i9 (.string ⟨#[]⟩) 1 16 Tryd.underlying22 ki k0 kk1 k2 rfl (by decide) (.slice A2 L2.length c2) L2.length (strC L2) (by rfl) (ca_own_alloc HO5b.out.own _) ⟨W5b.heap.size, 0, none⟩ 1 1 [.string ⟨#[36, 46]⟩] rfl rfl (cells_of' _ _ _ _ rfl rfl) (by simp [Value.oneCell']) (by unfold maxLen; omega) (by omega) (by have := HO5b.out.below.size; simp; omega) ?_; intro V3 W3 ho3 hg3 _; have HO3 := Lib.hid (HO5b.out.one ho3 hg3); clear ho3 hg3; obtain ⟨L3, hL3⟩ : ∃ L, L2 ++ [[36, 46]] = L := ⟨_, rfl⟩; have bL3 : L3.length ≤ tx.length + 3 := (by rw [← hL3]; simp <;> omega); rw [hL3] at HO3; have HL3 := Lib.hid hL3; clear hL3; obtain ⟨A3, c3, rfl⟩ := HO3.out.form)))
        go_ret
        exact ⟨_, rfl, by rw [HQ.out]; simp only [if_true, if_false, Bool.false_eq_true, List.append_nil]; rw [← List.nil_append [l], HL9.out, HL2.out, HL3.out]; exact HO3.out⟩
    | true =>
      go_wp2_with fail
      go_region_held3 (fun w' => w'.cell? ⟨w.heap.size, 3, none⟩ = some (.slice P1 px.length d2)) (go_keep)
        (first
          | (refine step_append_rds rfl (.tmp 27) (.tmp 28) 22 rfl w.heap.size 9 i9 (.string ⟨#[]⟩) 1 16 Tryd.underlying22 ki k0 kk1 k2 rfl (by decide) (.slice A2 L2.length c2) L2.length (strC L2) (by rfl) (ca_own_alloc HO5b.out.drew.own _) _ 1 [.string ⟨#[36, 61]⟩] (by rfl) (Rds.lit (size := 1) _ 9 #[.string ⟨#[36, 61]⟩] 1 rfl (by decide)) (by simp [Value.oneCell']) (by unfold maxLen; omega) (by omega) (new_ HO5b.out.drew.below _).size ?_; intro V7a W7a ho7a hg7a; have HO7a := Lib.hid (HO5b.out.drew.one (u := [36, 61]) ho7a hg7a); have HX7a := Lib.hid (HO5b.out.drew.row1 HX5b.out.drew (by decide) hg7a); have HY7a := Lib.hid (HO5b.out.drew.row1 HY5b.out.drew (by decide) hg7a); clear ho7a hg7a; have qX7a3 := HX7a.out.cell (i := 3) (v := .slice P1 px.length d2) rfl; have lX7a := HX7a.out.lt; have qY7a3 := HY7a.out.cell (i := 3) (v := .int .i64 (mostS k : Nat)) rfl; have lY7a := HY7a.out.lt)
          | (refine step_append_rds rfl (.tmp 29) (.tmp 31) 22 rfl w.heap.size 9 i9 (.string ⟨#[]⟩) 1 16 Tryd.underlying22 ki k0 kk1 k2 rfl (by decide) V7a (L2 ++ [[36, 61]]).length (strC (L2 ++ [[36, 61]])) (by rfl) HO7a.out.own (.slice P1 px.length d2) px.length (strC px) (by rfl) (HO7a.out.rds HP.out) (strC_one _) (by unfold maxLen; simp; omega) (by simp; omega) HO7a.out.below.size ?_; intro V7b W7b ho7b hg7b; have HO7b := Lib.hid (HO7a.out.more ho7b hg7b); have HX7b := Lib.hid (HO7a.out.row HX7a.out (by decide) hg7b); have HY7b := Lib.hid (HO7a.out.row HY7a.out (by decide) hg7b); clear ho7b hg7b; have qX7b3 := HX7b.out.cell (i := 3) (v := .slice P1 px.length d2) rfl; have lX7b := HX7b.out.lt; have qY7b3 := HY7b.out.cell (i := 3) (v := .int .i64 (mostS k : Nat)) rfl; have lY7b := HY7b.out.lt))
      obtain ⟨L4, hL4⟩ : ∃ L, L2 ++ [[36, 61]] ++ px = L := ⟨_, rfl⟩
      have bL4 : L4.length ≤ tx.length + px.length + 3 := (by rw [← hL4]; simp <;> omega)
      rw [hL4] at HO7b
      have HL4 := Lib.hid hL4
      clear hL4
      obtain ⟨A4, c4, rfl⟩ := HO7b.out.form
      cases c0 with
      | false =>
        exfalso
        have h1 := of_decide_eq_false HC0.out
        have h2 : (k : Int) = 7 := by simpa using HC7.out
        rw [h2] at h1
        exact h1 (by decide)
      | true =>
        go_wp2_with (first
          | (at_builtin; (refine wpList_append_own _ rfl (.tmp 36) (.tmp 37) 22 rfl w.heap.size 9 i9 (.string ⟨#[]⟩) 1 16 Tryd.underlying22 ki k0 kk1 k2 rfl (by decide) (.slice A4 L4.length c4) L4.length (strC L4) (by rfl) (ca_own_alloc HO7b.out.own _) ⟨W7b.heap.size, 0, none⟩ 1 1 [.string ⟨#[36, 46]⟩] rfl rfl (cells_of' _ _ _ _ rfl rfl) (by simp [Value.oneCell']) (by unfold maxLen; omega) (by omega) (by have := HO7b.out.below.size; simp; omega) ?_; intro V6 W6 ho6 hg6 _; have HO6 := Lib.hid (HO7b.out.one ho6 hg6); clear ho6 hg6; obtain ⟨L6, hL6⟩ : ∃ L, L4 ++ [[36, 46]] = L := ⟨_, rfl⟩; have bL6 : L6.length ≤ tx.length + px.length + 4 := (by rw [← hL6]; simp <;> omega); rw [hL6] at HO6; have HL6 := Lib.hid hL6; clear hL6; obtain ⟨A6, c6, rfl⟩ := HO6.out.form)))
        go_ret
        exact ⟨_, rfl, by rw [HQ.out]; simp only [if_true]; rw [← List.nil_append [l], HL9.out, HL2.out, List.append_cons L2, HL4.out, HL6.out]; exact HO6.out⟩
theorem wordsOf_any (w : World) (x : StmD) (tv pv : Value) (hT : Strs w tv x.text) (hP : Strs w pv x.proof) (hk : 1 ≤ x.kind ∧ x.kind ≤ 9) (hn : x.text.length ≤ 1000000) (hp : x.proof.length ≤ 1000000) (hF : FormsAt w) :
    Calls Tryd.prog 42 #[stmV x.kind x.label tv pv] w fun e w' => ∃ v, e = .returned v ∧ Strs w' v (wordsS x) ∧ Below w.heap.size w w' :=
  (wordsOf_own w x tv pv hT hP hk hn hp hF).mono fun _ _ ⟨v, h1, h2⟩ => ⟨v, h1, h2.strs, h2.below⟩
end Go.Proofs.YtpmbfcogkoiogaaDoor
end
section
namespace Go.Proofs.YtpmbfcogkoiogaaDoor
open Go.RowKit
set_option maxRecDepth 100000 in
set_option maxHeartbeats 8000000 in
theorem ref_words (w : World) (x : StmD) (tv pv : Value) (hT : Strs w tv x.text) (hP : Strs w pv x.proof) (hk : 1 ≤ x.kind ∧ x.kind ≤ 9) (h0 : mostS x.kind = 0 → x.text = []) (hn : x.text.length ≤ 1000000) (hp : x.proof.length ≤ 1000000) :
    Calls Tryd.prog 44 #[stmV x.kind x.label tv pv] w fun e w' => ∃ v, e = .returned v ∧ Strs w' v (wordsS x) ∧ Below w.heap.size w w' := by
  obtain ⟨kz, l, tx, px⟩ := x
  dsimp only at hT hP hk h0 hn hp ⊢
  obtain ⟨k, rfl⟩ : ∃ k : Nat, kz = k := ⟨kz.toNat, by omega⟩
  obtain ⟨T1, d1, rfl, hd1, hm1, -⟩ := hT.open_
  obtain ⟨P1, d2, rfl, hd2, hm2, -⟩ := hP.open_
  have hk1 : 1 ≤ k := by omega
  have hk9 : k ≤ 9 := by omega
  obtain ⟨i9, ki, k0, kk1, k2⟩ := info_parts infoStr
  obtain ⟨W0, hW0⟩ : ∃ W0, W0 = (w.alloc (.cells #[.int .i64 k, .string ⟨l.toArray⟩, .slice T1 tx.length d1, .slice P1 px.length d2] 34)).alloc (.cells #[] 9) := ⟨_, rfl⟩
  have hb0 : Below w.heap.size w W0 := by rw [hW0]; exact new_ (new_ (Below.refl _ _) _) _
  have hX0 : Row W0 w.heap.size 34 #[.int .i64 k, .string ⟨l.toArray⟩, .slice T1 tx.length d1, .slice P1 px.length d2] := by rw [hW0]; exact (Row.new _ _ _).alloc _
  have hO0 : OutAt w W0 (.slice (some ⟨w.heap.size + 1, 0, none⟩) 0 0) [] := ⟨by
    rw [hW0]
    have h1 := World.ownsRow_made (base := w.heap.size) (e := 9) (size := 1) (w.alloc (.cells #[.int .i64 k, .string ⟨l.toArray⟩, .slice T1 tx.length d1, .slice P1 px.length d2] 34)) #[] 0 (by simp) (by decide) (by simp)
    simpa [strC] using h1, hb0⟩
  have HT := Lib.hid hT
  have HP := Lib.hid hP
  have HX0 := Lib.hid hX0
  have HO0 := Lib.hid hO0
  have HW0 := Lib.hid hW0
  have H00 := Lib.hid h0
  clear hT hP hX0 hO0 hW0 hb0 hk h0
  have q0 := HX0.out.cell (i := 0) (v := .int .i64 k) rfl
  have q1 := HX0.out.cell (i := 1) (v := .string ⟨l.toArray⟩) rfl
  have lx := HX0.out.lt
  obtain ⟨kw, hkw⟩ : ∃ s, kwOf k = s := ⟨_, rfl⟩
  obtain ⟨lb, hlb⟩ : ∃ b, labS k = b := ⟨_, rfl⟩
  have HKW := Lib.hid hkw
  have HLB := Lib.hid hlb
  clear hkw hlb
  unfold stmV
  cases lb with
  | false =>
    have h7 : k ≠ 7 := by
      rintro rfl
      have := HLB.out
      exact absurd this (by decide)
    have e7 : ((k : Int) == 7) = false := by rw [beq_eq_false_iff_ne]; omega
    have H7 : Hid ((k : Int) ≠ 7) := Lib.hid (by omega)
    clear h7
    by_cases hm : mostS k = 0
    · have h89 : k = 8 ∨ k = 9 := by
        unfold mostS at hm
        split at hm
        · cases hm
        · split at hm
          · omega
          · cases hm
      have HQ : Hid (wordsS ⟨k, l, tx, px⟩ = [] ++ [kw]) := Lib.hid (by rw [words_one HLB.out hm (H00.out hm) H7.out, HKW.out]; rfl)
      clear hm
      obtain ⟨b8, hb8⟩ : ∃ b, ((k : Int) == 8) = b := ⟨_, rfl⟩
      have e9 : b8 = false → ((k : Int) == 9) = true := by
        rintro rfl
        have : k ≠ 8 := by rintro rfl; exact absurd hb8 (by decide)
        have : k = 9 := by omega
        rw [this]; rfl
      clear h89
      cases b8
      all_goals
        first
        | (have e91 := e9 rfl)
        | (have e91 : True := trivial)
        clear e9
        go_enter Tryd.func44, Tryd.ntmps44
        go_wp2_with fail
        rw [← HW0.out]
        refine (ref_labelled _ _).mono ?_
        rw [HLB.out]
        rintro e w9 ⟨rfl, rfl⟩
        go_wp2_with fail
        refine (ref_keyword _ k hk1 hk9).mono ?_
        rw [HKW.out]
        rintro e w8 ⟨rfl, hb8⟩
        have HK8 := Lib.hid (HO0.out.next hb8)
        have HX8 := Lib.hid (HX0.out.below hb8 HX0.out.lt)
        clear hb8 q0 q1 lx
        have q0 := HX8.out.cell (i := 0) (v := .int .i64 k) rfl
        have q2 := HX8.out.cell (i := 2) (v := .slice T1 tx.length d1) rfl
        have q3 := HX8.out.cell (i := 3) (v := .slice P1 px.length d2) rfl
        have lx := HX8.out.lt
        go_wp2_with (first
          | (at_builtin; (refine wpList_append_own _ rfl (.tmp 13) (.tmp 17) 22 rfl w.heap.size 9 i9 (.string ⟨#[]⟩) 1 16 Tryd.underlying22 ki k0 kk1 k2 rfl (by decide) (.slice (some ⟨w.heap.size + 1, 0, none⟩) 0 0) 0 [] (by rfl) (ca_own_alloc HK8.out.own _) ⟨w8.heap.size, 0, none⟩ 1 1 [.string ⟨kw.toArray⟩] rfl rfl (cells_of' _ _ _ _ rfl rfl) (by simp [Value.oneCell']) (by unfold maxLen; omega) (by omega) (by have := HK8.out.below.size; simp; omega) ?_; intro V1 W1 ho1 hg1 _; have HO1 := Lib.hid (HK8.out.one ho1 hg1); have HX1 := Lib.hid (HK8.out.row1 HX8.out (by decide) hg1); clear ho1 hg1; obtain ⟨L1, hL1⟩ : ∃ L, [] ++ [kw] = L := ⟨_, rfl⟩; have bL1 : L1.length ≤ 2 := (by rw [← hL1]; simp <;> omega); rw [hL1] at HO1; have HL1 := Lib.hid hL1; clear hL1; obtain ⟨A1, c1, rfl⟩ := HO1.out.form; clear q0 q2 q3 lx; have q0 := HX1.out.cell (i := 0) (v := .int .i64 k) rfl; have q2 := HX1.out.cell (i := 2) (v := .slice T1 tx.length d1) rfl; have q3 := HX1.out.cell (i := 3) (v := .slice P1 px.length d2) rfl; have lx := HX1.out.lt)))
        go_ret
        exact ⟨_, rfl, by rw [HQ.out]; rw [HL1.out]; exact HO1.out.strs, HO1.out.below⟩
    · have e8 : ((k : Int) == 8) = false := by
        rw [beq_eq_false_iff_ne]
        intro h
        exact hm (by rw [h]; rfl)
      have e9 : ((k : Int) == 9) = false := by
        rw [beq_eq_false_iff_ne]
        intro h
        exact hm (by rw [h]; rfl)
      have HQ : Hid (wordsS ⟨k, l, tx, px⟩ = [] ++ [kw] ++ tx ++ [[36, 46]]) := Lib.hid (by rw [words_plain HLB.out hm H7.out, HKW.out]; rfl)
      clear hm
      go_enter Tryd.func44, Tryd.ntmps44
      go_wp2_with fail
      rw [← HW0.out]
      refine (ref_labelled _ _).mono ?_
      rw [HLB.out]
      rintro e w9 ⟨rfl, rfl⟩
      go_wp2_with fail
      refine (ref_keyword _ k hk1 hk9).mono ?_
      rw [HKW.out]
      rintro e w8 ⟨rfl, hb8⟩
      have HK8 := Lib.hid (HO0.out.next hb8)
      have HX8 := Lib.hid (HX0.out.below hb8 HX0.out.lt)
      clear hb8 q0 q1 lx
      have q0 := HX8.out.cell (i := 0) (v := .int .i64 k) rfl
      have q2 := HX8.out.cell (i := 2) (v := .slice T1 tx.length d1) rfl
      have q3 := HX8.out.cell (i := 3) (v := .slice P1 px.length d2) rfl
      have lx := HX8.out.lt
      go_wp2_with (first
        | (at_builtin; (refine wpList_append_own _ rfl (.tmp 13) (.tmp 17) 22 rfl w.heap.size 9 i9 (.string ⟨#[]⟩) 1 16 Tryd.underlying22 ki k0 kk1 k2 rfl (by decide) (.slice (some ⟨w.heap.size + 1, 0, none⟩) 0 0) 0 [] (by rfl) (ca_own_alloc HK8.out.own _) ⟨w8.heap.size, 0, none⟩ 1 1 [.string ⟨kw.toArray⟩] rfl rfl (cells_of' _ _ _ _ rfl rfl) (by simp [Value.oneCell']) (by unfold maxLen; omega) (by omega) (by have := HK8.out.below.size; simp; omega) ?_; intro V1 W1 ho1 hg1 _; have HO1 := Lib.hid (HK8.out.one ho1 hg1); have HX1 := Lib.hid (HK8.out.row1 HX8.out (by decide) hg1); clear ho1 hg1; obtain ⟨L1, hL1⟩ : ∃ L, [] ++ [kw] = L := ⟨_, rfl⟩; have bL1 : L1.length ≤ 2 := (by rw [← hL1]; simp <;> omega); rw [hL1] at HO1; have HL1 := Lib.hid hL1; clear hL1; obtain ⟨A1, c1, rfl⟩ := HO1.out.form; clear q0 q2 q3 lx; have q0 := HX1.out.cell (i := 0) (v := .int .i64 k) rfl; have q2 := HX1.out.cell (i := 2) (v := .slice T1 tx.length d1) rfl; have q3 := HX1.out.cell (i := 3) (v := .slice P1 px.length d2) rfl; have lx := HX1.out.lt))
        | (at_builtin; (refine wpList_append_rds rfl (.tmp 28) (.tmp 30) 22 rfl w.heap.size 9 i9 (.string ⟨#[]⟩) 1 16 Tryd.underlying22 ki k0 kk1 k2 rfl (by decide) (.slice A1 L1.length c1) L1.length (strC L1) (by rfl) HO1.out.own (.slice T1 tx.length d1) tx.length (strC tx) (by rfl) (HO1.out.rds HT.out) (strC_one _) (by unfold maxLen; omega) (by omega) HO1.out.below.size ?_; intro V2 W2 ho2 hg2; have HO2 := Lib.hid (HO1.out.more ho2 hg2); have HX2 := Lib.hid (HO1.out.row HX1.out (by decide) hg2); clear ho2 hg2; obtain ⟨L2, hL2⟩ : ∃ L, L1 ++ tx = L := ⟨_, rfl⟩; have bL2 : L2.length ≤ tx.length + 2 := (by rw [← hL2]; simp <;> omega); rw [hL2] at HO2; have HL2 := Lib.hid hL2; clear hL2; obtain ⟨A2, c2, rfl⟩ := HO2.out.form; clear q0 q2 q3 lx; have q0 := HX2.out.cell (i := 0) (v := .int .i64 k) rfl; have q2 := HX2.out.cell (i := 2) (v := .slice T1 tx.length d1) rfl; have q3 := HX2.out.cell (i := 3) (v := .slice P1 px.length d2) rfl; have lx := HX2.out.lt))
        | (at_builtin; (refine wpList_append_own _ rfl (.tmp 41) (.tmp 42) 22 rfl w.heap.size 9 i9 (.string ⟨#[]⟩) 1 16 Tryd.underlying22 ki k0 kk1 k2 rfl (by decide) (.slice A2 L2.length c2) L2.length (strC L2) (by rfl) (ca_own_alloc HO2.out.own _) ⟨W2.heap.size, 0, none⟩ 1 1 [.string ⟨#[36, 46]⟩] rfl rfl (cells_of' _ _ _ _ rfl rfl) (by simp [Value.oneCell']) (by unfold maxLen; omega) (by omega) (by have := HO2.out.below.size; simp; omega) ?_; intro V3 W3 ho3 hg3 _; have HO3 := Lib.hid (HO2.out.one ho3 hg3); clear ho3 hg3; obtain ⟨L3, hL3⟩ : ∃ L, L2 ++ [[36, 46]] = L := ⟨_, rfl⟩; have bL3 : L3.length ≤ tx.length + 3 := (by rw [← hL3]; simp <;> omega); rw [hL3] at HO3; have HL3 := Lib.hid hL3; clear hL3; obtain ⟨A3, c3, rfl⟩ := HO3.out.form)))
      go_ret
      exact ⟨_, rfl, by rw [HQ.out]; rw [HL1.out, HL2.out, HL3.out]; exact HO3.out.strs, HO3.out.below⟩
  | true =>
    obtain ⟨m0, m1, m2⟩ := lab_le HLB.out
    have e8 : ((k : Int) == 8) = false := by rw [beq_eq_false_iff_ne]; omega
    have e9 : ((k : Int) == 9) = false := by rw [beq_eq_false_iff_ne]; omega
    have HM : Hid (mostS k ≠ 0) := Lib.hid m0
    clear m0 m1 m2
    by_cases h7 : k = 7
    · have e7 : ((k : Int) == 7) = true := by rw [h7]; rfl
      have HQ : Hid (wordsS ⟨k, l, tx, px⟩ = [] ++ [l] ++ [kw] ++ tx ++ [[36, 61]] ++ px ++ [[36, 46]]) := Lib.hid (by rw [words_prf HLB.out HM.out (by rw [h7]; rfl), HKW.out]; rfl)
      clear h7
      have HOZ := HO0
      clear HO0
      go_enter Tryd.func44, Tryd.ntmps44
      go_wp2_with fail
      rw [← HW0.out]
      refine (ref_labelled _ _).mono ?_
      rw [HLB.out]
      rintro e w9 ⟨rfl, rfl⟩
      go_wp2_with (first
        | (at_builtin; (refine wpList_append_own _ rfl (.tmp 8) (.tmp 11) 22 rfl w.heap.size 9 i9 (.string ⟨#[]⟩) 1 16 Tryd.underlying22 ki k0 kk1 k2 rfl (by decide) (.slice (some ⟨w.heap.size + 1, 0, none⟩) 0 0) 0 [] (by rfl) (ca_own_alloc HOZ.out.own _) ⟨W0.heap.size, 0, none⟩ 1 1 [.string ⟨l.toArray⟩] rfl rfl (cells_of' _ _ _ _ rfl rfl) (by simp [Value.oneCell']) (by unfold maxLen; omega) (by omega) (by have := HOZ.out.below.size; simp; omega) ?_; intro V0 W0 ho0 hg0 _; have HO0 := Lib.hid (HOZ.out.one ho0 hg0); have HX9 := Lib.hid (HOZ.out.row1 HX0.out (by decide) hg0); clear ho0 hg0; obtain ⟨L0, hL0⟩ : ∃ L, [] ++ [l] = L := ⟨_, rfl⟩; have bL0 : L0.length ≤ 1 := (by rw [← hL0]; simp <;> omega); rw [hL0] at HO0; have HL0 := Lib.hid hL0; clear hL0; obtain ⟨A0, c0, rfl⟩ := HO0.out.form; clear q0 q1 lx; have q0 := HX9.out.cell (i := 0) (v := .int .i64 k) rfl; have lx := HX9.out.lt)))
      refine (ref_keyword _ k hk1 hk9).mono ?_
      rw [HKW.out]
      rintro e w8 ⟨rfl, hb8⟩
      have HK8 := Lib.hid (HO0.out.next hb8)
      have HX8 := Lib.hid (HX9.out.below hb8 HX9.out.lt)
      clear hb8 q0 lx
      have q0 := HX8.out.cell (i := 0) (v := .int .i64 k) rfl
      have q2 := HX8.out.cell (i := 2) (v := .slice T1 tx.length d1) rfl
      have q3 := HX8.out.cell (i := 3) (v := .slice P1 px.length d2) rfl
      have lx := HX8.out.lt
      go_wp2_with (first
        | (at_builtin; (refine wpList_append_own _ rfl (.tmp 13) (.tmp 17) 22 rfl w.heap.size 9 i9 (.string ⟨#[]⟩) 1 16 Tryd.underlying22 ki k0 kk1 k2 rfl (by decide) (.slice A0 L0.length c0) L0.length (strC L0) (by rfl) (ca_own_alloc HK8.out.own _) ⟨w8.heap.size, 0, none⟩ 1 1 [.string ⟨kw.toArray⟩] rfl rfl (cells_of' _ _ _ _ rfl rfl) (by simp [Value.oneCell']) (by unfold maxLen; omega) (by omega) (by have := HK8.out.below.size; simp; omega) ?_; intro V1 W1 ho1 hg1 _; have HO1 := Lib.hid (HK8.out.one ho1 hg1); have HX1 := Lib.hid (HK8.out.row1 HX8.out (by decide) hg1); clear ho1 hg1; obtain ⟨L1, hL1⟩ : ∃ L, L0 ++ [kw] = L := ⟨_, rfl⟩; have bL1 : L1.length ≤ 2 := (by rw [← hL1]; simp <;> omega); rw [hL1] at HO1; have HL1 := Lib.hid hL1; clear hL1; obtain ⟨A1, c1, rfl⟩ := HO1.out.form; clear q0 q2 q3 lx; have q0 := HX1.out.cell (i := 0) (v := .int .i64 k) rfl; have q2 := HX1.out.cell (i := 2) (v := .slice T1 tx.length d1) rfl; have q3 := HX1.out.cell (i := 3) (v := .slice P1 px.length d2) rfl; have lx := HX1.out.lt))
        | (at_builtin; (refine wpList_append_rds rfl (.tmp 28) (.tmp 30) 22 rfl w.heap.size 9 i9 (.string ⟨#[]⟩) 1 16 Tryd.underlying22 ki k0 kk1 k2 rfl (by decide) (.slice A1 L1.length c1) L1.length (strC L1) (by rfl) HO1.out.own (.slice T1 tx.length d1) tx.length (strC tx) (by rfl) (HO1.out.rds HT.out) (strC_one _) (by unfold maxLen; omega) (by omega) HO1.out.below.size ?_; intro V2 W2 ho2 hg2; have HO2 := Lib.hid (HO1.out.more ho2 hg2); have HX2 := Lib.hid (HO1.out.row HX1.out (by decide) hg2); clear ho2 hg2; obtain ⟨L2, hL2⟩ : ∃ L, L1 ++ tx = L := ⟨_, rfl⟩; have bL2 : L2.length ≤ tx.length + 2 := (by rw [← hL2]; simp <;> omega); rw [hL2] at HO2; have HL2 := Lib.hid hL2; clear hL2; obtain ⟨A2, c2, rfl⟩ := HO2.out.form; clear q0 q2 q3 lx; have q0 := HX2.out.cell (i := 0) (v := .int .i64 k) rfl; have q2 := HX2.out.cell (i := 2) (v := .slice T1 tx.length d1) rfl; have q3 := HX2.out.cell (i := 3) (v := .slice P1 px.length d2) rfl; have lx := HX2.out.lt)))
      go_region_held3 (fun w' => w'.cell? ⟨w.heap.size, 3, none⟩ = some (.slice P1 px.length d2)) (go_keep)
        (first
          | (refine step_append_rds rfl (.tmp 35) (.tmp 36) 22 rfl w.heap.size 9 i9 (.string ⟨#[]⟩) 1 16 Tryd.underlying22 ki k0 kk1 k2 rfl (by decide) (.slice A2 L2.length c2) L2.length (strC L2) (by rfl) (ca_own_alloc HO2.out.drew.own _) _ 1 [.string ⟨#[36, 61]⟩] (by rfl) (Rds.lit (size := 1) _ 9 #[.string ⟨#[36, 61]⟩] 1 rfl (by decide)) (by simp [Value.oneCell']) (by unfold maxLen; omega) (by omega) (new_ HO2.out.drew.below _).size ?_; intro VA WA hoA hgA; have HOA := Lib.hid (HO2.out.drew.one (u := [36, 61]) hoA hgA); have HXA := Lib.hid (HO2.out.drew.row1 HX2.out.drew (by decide) hgA); clear hoA hgA; have qa3 := HXA.out.cell (i := 3) (v := .slice P1 px.length d2) rfl; have lxa := HXA.out.lt)
          | (refine step_append_rds rfl (.tmp 37) (.tmp 39) 22 rfl w.heap.size 9 i9 (.string ⟨#[]⟩) 1 16 Tryd.underlying22 ki k0 kk1 k2 rfl (by decide) VA (L2 ++ [[36, 61]]).length (strC (L2 ++ [[36, 61]])) (by rfl) HOA.out.own (.slice P1 px.length d2) px.length (strC px) (by rfl) (HOA.out.rds HP.out) (strC_one _) (by unfold maxLen; simp; omega) (by simp; omega) HOA.out.below.size ?_; intro VB WB hoB hgB; have HOB := Lib.hid (HOA.out.more hoB hgB); have HXB := Lib.hid (HOA.out.row HXA.out (by decide) hgB); clear hoB hgB; have qb3 := HXB.out.cell (i := 3) (v := .slice P1 px.length d2) rfl; have lxb := HXB.out.lt))
      obtain ⟨L3, hL3⟩ : ∃ L, L2 ++ [[36, 61]] ++ px = L := ⟨_, rfl⟩
      have bL3 : L3.length ≤ tx.length + px.length + 3 := (by rw [← hL3]; simp <;> omega)
      rw [hL3] at HOB
      have HL3 := Lib.hid hL3
      clear hL3
      obtain ⟨A3, c3, rfl⟩ := HOB.out.form
      go_wp2_with (at_builtin; (refine wpList_append_own _ rfl (.tmp 41) (.tmp 42) 22 rfl w.heap.size 9 i9 (.string ⟨#[]⟩) 1 16 Tryd.underlying22 ki k0 kk1 k2 rfl (by decide) (.slice A3 L3.length c3) L3.length (strC L3) (by rfl) (ca_own_alloc HOB.out.own _) ⟨WB.heap.size, 0, none⟩ 1 1 [.string ⟨#[36, 46]⟩] rfl rfl (cells_of' _ _ _ _ rfl rfl) (by simp [Value.oneCell']) (by unfold maxLen; omega) (by omega) (by have := HOB.out.below.size; simp; omega) ?_; intro V4 W4 ho4 hg4 _; have HO4 := Lib.hid (HOB.out.one ho4 hg4); clear ho4 hg4; obtain ⟨L4, hL4⟩ : ∃ L, L3 ++ [[36, 46]] = L := ⟨_, rfl⟩; have bL4 : L4.length ≤ tx.length + px.length + 4 := (by rw [← hL4]; simp <;> omega); rw [hL4] at HO4; have HL4 := Lib.hid hL4; clear hL4; obtain ⟨A4, c4, rfl⟩ := HO4.out.form))
      go_ret
      exact ⟨_, rfl, by rw [HQ.out]; rw [HL0.out, HL1.out, HL2.out, HL3.out, HL4.out]; exact HO4.out.strs, HO4.out.below⟩
    · have e7 : ((k : Int) == 7) = false := by rw [beq_eq_false_iff_ne]; omega
      have HQ : Hid (wordsS ⟨k, l, tx, px⟩ = [] ++ [l] ++ [kw] ++ tx ++ [[36, 46]]) := Lib.hid (by rw [words_lab HLB.out HM.out (by omega), HKW.out]; rfl)
      clear h7
      have HOZ := HO0
      clear HO0
      go_enter Tryd.func44, Tryd.ntmps44
      go_wp2_with fail
      rw [← HW0.out]
      refine (ref_labelled _ _).mono ?_
      rw [HLB.out]
      rintro e w9 ⟨rfl, rfl⟩
      go_wp2_with (first
        | (at_builtin; (refine wpList_append_own _ rfl (.tmp 8) (.tmp 11) 22 rfl w.heap.size 9 i9 (.string ⟨#[]⟩) 1 16 Tryd.underlying22 ki k0 kk1 k2 rfl (by decide) (.slice (some ⟨w.heap.size + 1, 0, none⟩) 0 0) 0 [] (by rfl) (ca_own_alloc HOZ.out.own _) ⟨W0.heap.size, 0, none⟩ 1 1 [.string ⟨l.toArray⟩] rfl rfl (cells_of' _ _ _ _ rfl rfl) (by simp [Value.oneCell']) (by unfold maxLen; omega) (by omega) (by have := HOZ.out.below.size; simp; omega) ?_; intro V0 W0 ho0 hg0 _; have HO0 := Lib.hid (HOZ.out.one ho0 hg0); have HX9 := Lib.hid (HOZ.out.row1 HX0.out (by decide) hg0); clear ho0 hg0; obtain ⟨L0, hL0⟩ : ∃ L, [] ++ [l] = L := ⟨_, rfl⟩; have bL0 : L0.length ≤ 1 := (by rw [← hL0]; simp <;> omega); rw [hL0] at HO0; have HL0 := Lib.hid hL0; clear hL0; obtain ⟨A0, c0, rfl⟩ := HO0.out.form; clear q0 q1 lx; have q0 := HX9.out.cell (i := 0) (v := .int .i64 k) rfl; have lx := HX9.out.lt)))
      refine (ref_keyword _ k hk1 hk9).mono ?_
      rw [HKW.out]
      rintro e w8 ⟨rfl, hb8⟩
      have HK8 := Lib.hid (HO0.out.next hb8)
      have HX8 := Lib.hid (HX9.out.below hb8 HX9.out.lt)
      clear hb8 q0 lx
      have q0 := HX8.out.cell (i := 0) (v := .int .i64 k) rfl
      have q2 := HX8.out.cell (i := 2) (v := .slice T1 tx.length d1) rfl
      have q3 := HX8.out.cell (i := 3) (v := .slice P1 px.length d2) rfl
      have lx := HX8.out.lt
      go_wp2_with (first
        | (at_builtin; (refine wpList_append_own _ rfl (.tmp 13) (.tmp 17) 22 rfl w.heap.size 9 i9 (.string ⟨#[]⟩) 1 16 Tryd.underlying22 ki k0 kk1 k2 rfl (by decide) (.slice A0 L0.length c0) L0.length (strC L0) (by rfl) (ca_own_alloc HK8.out.own _) ⟨w8.heap.size, 0, none⟩ 1 1 [.string ⟨kw.toArray⟩] rfl rfl (cells_of' _ _ _ _ rfl rfl) (by simp [Value.oneCell']) (by unfold maxLen; omega) (by omega) (by have := HK8.out.below.size; simp; omega) ?_; intro V1 W1 ho1 hg1 _; have HO1 := Lib.hid (HK8.out.one ho1 hg1); have HX1 := Lib.hid (HK8.out.row1 HX8.out (by decide) hg1); clear ho1 hg1; obtain ⟨L1, hL1⟩ : ∃ L, L0 ++ [kw] = L := ⟨_, rfl⟩; have bL1 : L1.length ≤ 2 := (by rw [← hL1]; simp <;> omega); rw [hL1] at HO1; have HL1 := Lib.hid hL1; clear hL1; obtain ⟨A1, c1, rfl⟩ := HO1.out.form; clear q0 q2 q3 lx; have q0 := HX1.out.cell (i := 0) (v := .int .i64 k) rfl; have q2 := HX1.out.cell (i := 2) (v := .slice T1 tx.length d1) rfl; have q3 := HX1.out.cell (i := 3) (v := .slice P1 px.length d2) rfl; have lx := HX1.out.lt))
        | (at_builtin; (refine wpList_append_rds rfl (.tmp 28) (.tmp 30) 22 rfl w.heap.size 9 i9 (.string ⟨#[]⟩) 1 16 Tryd.underlying22 ki k0 kk1 k2 rfl (by decide) (.slice A1 L1.length c1) L1.length (strC L1) (by rfl) HO1.out.own (.slice T1 tx.length d1) tx.length (strC tx) (by rfl) (HO1.out.rds HT.out) (strC_one _) (by unfold maxLen; omega) (by omega) HO1.out.below.size ?_; intro V2 W2 ho2 hg2; have HO2 := Lib.hid (HO1.out.more ho2 hg2); have HX2 := Lib.hid (HO1.out.row HX1.out (by decide) hg2); clear ho2 hg2; obtain ⟨L2, hL2⟩ : ∃ L, L1 ++ tx = L := ⟨_, rfl⟩; have bL2 : L2.length ≤ tx.length + 2 := (by rw [← hL2]; simp <;> omega); rw [hL2] at HO2; have HL2 := Lib.hid hL2; clear hL2; obtain ⟨A2, c2, rfl⟩ := HO2.out.form; clear q0 q2 q3 lx; have q0 := HX2.out.cell (i := 0) (v := .int .i64 k) rfl; have q2 := HX2.out.cell (i := 2) (v := .slice T1 tx.length d1) rfl; have q3 := HX2.out.cell (i := 3) (v := .slice P1 px.length d2) rfl; have lx := HX2.out.lt))
        | (at_builtin; (refine wpList_append_own _ rfl (.tmp 41) (.tmp 42) 22 rfl w.heap.size 9 i9 (.string ⟨#[]⟩) 1 16 Tryd.underlying22 ki k0 kk1 k2 rfl (by decide) (.slice A2 L2.length c2) L2.length (strC L2) (by rfl) (ca_own_alloc HO2.out.own _) ⟨W2.heap.size, 0, none⟩ 1 1 [.string ⟨#[36, 46]⟩] rfl rfl (cells_of' _ _ _ _ rfl rfl) (by simp [Value.oneCell']) (by unfold maxLen; omega) (by omega) (by have := HO2.out.below.size; simp; omega) ?_; intro V3 W3 ho3 hg3 _; have HO3 := Lib.hid (HO2.out.one ho3 hg3); clear ho3 hg3; obtain ⟨L3, hL3⟩ : ∃ L, L2 ++ [[36, 46]] = L := ⟨_, rfl⟩; have bL3 : L3.length ≤ tx.length + 3 := (by rw [← hL3]; simp <;> omega); rw [hL3] at HO3; have HL3 := Lib.hid hL3; clear hL3; obtain ⟨A3, c3, rfl⟩ := HO3.out.form)))
      go_ret
      exact ⟨_, rfl, by rw [HQ.out]; rw [HL0.out, HL1.out, HL2.out, HL3.out]; exact HO3.out.strs, HO3.out.below⟩
end Go.Proofs.YtpmbfcogkoiogaaDoor
end
