/- Layout: isWhite, isBlank, beginsWhite, endsWhite of the program. Layout: right of the program. -/
import Derived.Test.YtpmbfcogkoiogaaDoorBlankA
import Derived.Test.YtpmbfcogkoiogaaDoorLayFnA
import Derived.Test.YtpmbfcogkoiogaaDoorScanWA
import Derived.Test.YtpmbfcogkoiogaaDoorStrA
import Derived.Test.YtpmbfcogkoiogaaDoorFields
import Derived.Test.YtpmbfcogkoiogaaDoorDocMem
section
namespace Go.Proofs.YtpmbfcogkoiogaaDoor
open Go.RowKit
theorem wh_hasR (r : Nat) : hasR [32, 9, 13, 10, 12] r = wh r := by
  have h : ∀ n : Nat, n < 128 → hasR [32, 9, 13, 10, 12] n = wh n := by decide +kernel
  rcases Nat.lt_or_ge r 128 with h1 | h1
  · exact h r h1
  · unfold hasR wh
    rw [decide_eq_false (by omega)]
    symm
    simp
    omega
theorem white_any (w : World) (r : Nat) : Calls Tryd.prog 63 #[.int .i32 (r : Int)] w fun e w' => e = .returned (.bool (wh r)) ∧ Below w.heap.size w w' := by
  go_enter Tryd.func63, Tryd.ntmps63
  go_wp2_with fail
  refine (containsRune_any w [32, 9, 13, 10, 12] r (by decide) (by decide) (by decide)).mono ?_
  rw [wh_hasR]
  rintro e w2 ⟨rfl, hb⟩
  go_wp2_with fail
  go_ret
  exact ⟨rfl, hb⟩
theorem fields_white (w : World) (s : List UInt8) (hasc : ∀ b ∈ s, b.toNat < 128) (hs : s.length ≤ 4294967296) :
    Calls Tryd.prog 57 #[.string ⟨s.toArray⟩, .func (.func 63) #[] #[]] w fun e w' => ∃ v, e = .returned v ∧ Strs w' v ((toks 0 s).map (·.1)) ∧ Below w.heap.size w w' := by
  refine (Tryd.strings_FieldsFunc_grows 63 #[] (enters_of Tryd.func63 (by kernel_rfl) rfl) wh ⟨s.toArray⟩ w (by simpa [ByteArray.size] using hs) (fun W x hx hb => white_any W x)).mono ?_
  rintro e w' ⟨A, rfl, _, ho, hb⟩
  refine ⟨_, rfl, ?_, hb⟩
  have h := Rds.of_own ho
  rw [fields_toks s hasc] at h
  rw [fields_toks s hasc]
  unfold Strs
  simpa [Function.comp_def] using h
theorem wrap_byte {c : Nat} (h : c < 256) : wrap32 (c : Int) = (c : Int) := by unfold wrap32; omega
theorem begins_any (w : World) (s : List UInt8) : Calls Tryd.prog 106 #[.string ⟨s.toArray⟩] w fun e w' => e = .returned (.bool (headW? s)) ∧ Below w.heap.size w w' := by
  cases s with
  | nil =>
    go_enter Tryd.func106, Tryd.ntmps106
    go_wp2
    go_ret
    exact ⟨rfl, Below.refl _ _⟩
  | cons b r =>
    have e1 : ((b :: r) == []) = false := rfl
    have e2 : decide ((b :: r) = []) = false := by simp
    have hh : headW? (b :: r) = wh b.toNat := (wh_sp b).symm
    rw [hh]
    have h0 : (b :: r)[0]? = some b := rfl
    have hlen : 0 < (b :: r).length := by simp
    obtain ⟨s, hs0⟩ : ∃ s, b :: r = s := ⟨_, rfl⟩
    rw [hs0] at e1 e2 h0 hlen ⊢
    obtain ⟨c, hce, hcl⟩ : ∃ c : Nat, ((ByteArray.mk s.toArray)[0]'(by simpa [ByteArray.size] using hlen)).toNat = c ∧ c = s[0].toNat := ⟨_, rfl, rfl⟩
    have hcb : c = b.toNat := by rw [hcl, (List.getElem?_eq_some_iff.1 h0).2]
    rw [← hcb]
    have h256 : c < 256 := by rw [hcb]; exact b.toNat_lt
    have hw32 := wrap_byte h256
    clear hs0 h0 hcl hcb hh
    go_enter Tryd.func106, Tryd.ntmps106
    go_wp2_with fail
    refine (white_any w c).mono ?_
    rintro e w2 ⟨rfl, hb⟩
    go_wp2_with fail
    go_ret
    exact ⟨rfl, hb⟩
theorem ends_any (w : World) (s : List UInt8) (hs : s.length ≤ 1000000000) : Calls Tryd.prog 105 #[.string ⟨s.toArray⟩] w fun e w' => e = .returned (.bool (lastW? s)) ∧ Below w.heap.size w w' := by
  by_cases h0 : s = []
  · subst h0
    go_enter Tryd.func105, Tryd.ntmps105
    go_wp2
    go_ret
    exact ⟨rfl, Below.refl _ _⟩
  · have e1 : (s == []) = false := by simpa using h0
    have e2 : decide (s = []) = false := decide_eq_false h0
    have hlen : 0 < s.length := List.length_pos_iff.2 h0
    obtain ⟨n, hn⟩ : ∃ n, s.length = n + 1 := ⟨s.length - 1, by omega⟩
    have hlt : n < s.length := by omega
    have hl : lastW? s = wh s[n].toNat := by
      rw [wh_sp]
      unfold lastW?
      rw [List.getLast?_eq_getElem?, hn, Nat.add_sub_cancel, List.getElem?_eq_getElem hlt]
    obtain ⟨c, hce, hcl⟩ : ∃ c : Nat, ((ByteArray.mk s.toArray)[n]'(by simpa [ByteArray.size] using hlt)).toNat = c ∧ c = s[n].toNat := ⟨_, rfl, rfl⟩
    rw [hl, ← hcl]
    have h256 : c < 256 := by rw [hcl]; exact s[n].toNat_lt
    have hw32 := wrap_byte h256
    have hz : (s.length : Int) - 1 = (n : Int) := by omega
    have hw64 : wrap64 (n : Int) = (n : Int) := by unfold wrap64; omega
    clear hcl hl h0
    go_enter Tryd.func105, Tryd.ntmps105
    go_wp2_with fail
    refine (white_any w c).mono ?_
    rintro e w2 ⟨rfl, hb⟩
    go_wp2_with fail
    go_ret
    exact ⟨rfl, hb⟩
theorem blank_bad {s : List UInt8} {i : Nat} {hlt : i < s.length} (h : byteB s[i] = false) : blankP s = false := by
  have : s.all byteB = false := by
    rw [List.all_eq_false]
    exact ⟨s[i], List.getElem_mem hlt, by simp [h]⟩
  unfold blankP
  rw [this]
  rfl
theorem blank_next {s : List UInt8} {i : Nat} {hlt : i < s.length} (h : ∀ (j : Nat) b, j < i → s[j]? = some b → byteB b = true) (hi : byteB s[i] = true) : ∀ (j : Nat) b, j < i + 1 → s[j]? = some b → byteB b = true := fun j b hj hb => by
  by_cases e : j = i
  · subst e
    rw [List.getElem?_eq_getElem hlt] at hb
    cases hb
    exact hi
  · exact h j b (by omega) hb
set_option maxRecDepth 100000 in
set_option maxHeartbeats 4000000 in
theorem blank_any (w : World) (s : List UInt8) (hM : MaxAt w) (hs : s.length ≤ 40000) : Calls Tryd.prog 104 #[.string ⟨s.toArray⟩] w fun e w' => e = .returned (.bool (blankP s)) ∧ Below w.heap.size w w' := by
  have HM := Lib.hid hM
  clear hM
  obtain ⟨BB, hBB⟩ : ∃ B, blankP s = B := ⟨_, rfl⟩
  have HBB := Lib.hid hBB
  rw [hBB]
  clear hBB
  go_enter Tryd.func104, Tryd.ntmps104
  go_wp2
  go_loopw [9] (fun iv wr => ∃ i : Nat, i ≤ s.length ∧ iv = .int .i64 i ∧ (∀ (j : Nat) b, j < i → s[j]? = some b → byteB b = true) ∧ Below w.heap.size w wr) (fun iv _ => s.length - (intOf iv).toNat)
  case atStart => exact ⟨0, Nat.zero_le _, rfl, fun j b h => by omega, Below.refl _ _⟩
  case round =>
    obtain ⟨i, hi, rfl, hok, hB⟩ := hrel
    have HOK := Lib.hid hok
    have HB := Lib.hid hB
    clear hok hB
    by_cases hlt : i < s.length
    · obtain ⟨c, hce, hcl⟩ : ∃ c : Nat, ((ByteArray.mk s.toArray)[i]'(by simpa [ByteArray.size] using hlt)).toNat = c ∧ c = s[i].toNat := ⟨_, rfl, rfl⟩
      have h256 : c < 256 := by rw [hcl]; exact s[i].toNat_lt
      have hw32 := wrap_byte h256
      have hby : byteB s[i] = (wh c || !(decide (c < 33) || decide (126 < c))) := by rw [byte_wh c h256, hcl]; rfl
      have HBY := Lib.hid hby
      clear hby hcl
      obtain ⟨bw, hbw⟩ : ∃ b, wh c = b := ⟨_, rfl⟩
      have HBW := Lib.hid hbw
      clear hbw
      go_wp2_with fail
      refine (white_any wr c).mono ?_
      rw [HBW.out]
      rintro e w2 ⟨rfl, hb⟩
      have HB2 := Lib.hid (then_ HB.out hb)
      clear hb
      cases bw with
      | true =>
        go_wp2_with fail
        go_roundw
        case rel => exact ⟨i + 1, by omega, by go_num, blank_next HOK.out (by rw [HBY.out, HBW.out]; rfl), HB2.out⟩
        case measure => simp [intOf]; omega
      | false =>
        by_cases h33 : c < 33
        · have e1 : decide ((c : Int) < 33) = true := decide_eq_true (by omega)
          have e2 : decide (c < 33) = true := decide_eq_true h33
          have HR : Hid (BB = false) := Lib.hid (HBB.out.symm.trans <| blank_bad (by rw [HBY.out, HBW.out, e2]; rfl))
          go_wp2_with fail
          go_ret
          exact ⟨by rw [HR.out]; rfl, HB2.out⟩
        · by_cases h126 : 126 < c
          · have e1 : decide ((c : Int) < 33) = false := decide_eq_false (by omega)
            have e2 : decide (c < 33) = false := decide_eq_false h33
            have e3 : decide ((126 : Int) < (c : Int)) = true := decide_eq_true (by omega)
            have e4 : decide (126 < c) = true := decide_eq_true h126
            have HR : Hid (BB = false) := Lib.hid (HBB.out.symm.trans <| blank_bad (by rw [HBY.out, HBW.out, e2, e4]; rfl))
            go_wp2_with fail
            go_ret
            exact ⟨by rw [HR.out]; rfl, HB2.out⟩
          · have e1 : decide ((c : Int) < 33) = false := decide_eq_false (by omega)
            have e2 : decide (c < 33) = false := decide_eq_false h33
            have e3 : decide ((126 : Int) < (c : Int)) = false := decide_eq_false (by omega)
            have e4 : decide (126 < c) = false := decide_eq_false h126
            go_wp2_with fail
            go_roundw
            case rel => exact ⟨i + 1, by omega, by go_num, blank_next HOK.out (by rw [HBY.out, HBW.out, e2, e4]; rfl), HB2.out⟩
            case measure => simp [intOf]; omega
    · obtain rfl : i = s.length := by omega
      have hall : s.all byteB = true := List.all_eq_true.2 fun b hb => by
        obtain ⟨j, hj⟩ := List.getElem?_of_mem hb
        exact HOK.out j b (List.getElem?_eq_some_iff.1 hj).1 hj
      have hasc : ∀ b ∈ s, b.toNat < 128 := fun b hb => by
        have h1 := List.all_eq_true.1 hall b hb
        have h2 := byte_wh b.toNat b.toNat_lt
        have h3 : ∀ n : Nat, n < 256 → (cls n != 0) = true → n < 128 := by decide +kernel
        exact h3 _ b.toNat_lt h1
      obtain ⟨ws, hws⟩ : ∃ ws, (toks 0 s).map (·.1) = ws := ⟨_, rfl⟩
      have HP : Hid ((brun false ws == some false) = BB) := Lib.hid (by rw [← HBB.out]; unfold blankP; rw [hall, hws, Bool.true_and])
      have hwl : ∀ u ∈ ws, u.length ≤ 40000 := fun u hu => by
        rw [← hws] at hu
        obtain ⟨t, ht, rfl⟩ := List.mem_map.1 hu
        have := (toks_where s.length s 0 (Nat.le_refl _)).1 t ht
        omega
      have HWL := Lib.hid hwl
      go_wp2_with fail
      refine (fields_white wr s hasc (by omega)).mono ?_
      rw [hws]
      rintro e w2 ⟨v, rfl, hv, hb⟩
      have HV := Lib.hid hv
      have HB2 := Lib.hid (then_ HB.out hb)
      obtain ⟨A1, c1, rfl, hc1, hm1, -⟩ := hv.open_
      unfold maxLen at hm1
      clear hv hb hall hasc hws hwl hi hlt HOK HB
      go_wp2_with fail
      go_loopw [4, 34] (fun iv kv wr => ∃ (k : Nat) (b : Bool), k ≤ ws.length ∧ kv = .int .i64 k ∧ iv = .bool b ∧ (brun b (ws.drop k) == some false) = BB ∧ Below w2.heap.size w2 wr) (fun _ kv _ => ws.length - (intOf kv).toNat)
      case atStart => exact ⟨0, false, Nat.zero_le _, rfl, rfl, HP.out, Below.refl _ _⟩
      case round =>
        obtain ⟨k, b, hk, rfl, rfl, hr, hB⟩ := hrel
        have HR := Lib.hid hr
        have HB := Lib.hid (then_ HB2.out hB)
        by_cases hlt : k < ws.length
        · obtain ⟨u, hu⟩ : ∃ u, ws[k]? = some u := ⟨_, List.getElem?_eq_getElem hlt⟩
          obtain ⟨A', c', hvv, _, _, hxx⟩ := (HV.out.below hB).open_
          obtain ⟨bb, oo, hA, g0⟩ := hxx k u hu
          obtain ⟨rfl, _, rfl⟩ := (by simpa using hvv : A1 = A' ∧ True ∧ c1 = c')
          subst hA
          have hul := HWL.out u (List.mem_of_getElem? hu)
          have hd : ws.drop k = u :: ws.drop (k + 1) := by
            rw [List.drop_eq_getElem_cons hlt]
            congr 1
            exact (List.getElem?_eq_some_iff.1 hu).2
          rw [hd, brun] at hr
          have HR2 := Lib.hid hr
          have HBw := Lib.hid hB
          clear hxx hvv hd hu hr hB
          by_cases h1 : u = [36, 40]
          · subst h1
            cases b with
            | false =>
              have HQ : Hid ((brun true (ws.drop (k + 1)) == some false) = BB) := Lib.hid (by have := HR2.out; simpa using this)
              clear HR2 HR
              go_wp2_with fail
              go_roundw
              case rel => exact ⟨k + 1, true, by omega, by go_num, rfl, HQ.out, HBw.out⟩
              case measure => simp [intOf]; omega
            | true =>
              have HQ : Hid (BB = false) := Lib.hid (by have := HR2.out; rw [← this]; simp [show hasC [36, 40] = true by decide])
              clear HR2 HR
              go_wp2_with (go_at_call 92; refine (contains_two wr [36, 40] 36 40 (HM.out.below HB.out) (by decide)).mono ?_; rw [show hasB 36 40 [36, 40] = true by decide]; rintro e wx ⟨rfl, rfl⟩)
              go_ret
              exact ⟨by rw [HQ.out]; rfl, HB.out⟩
          · by_cases h2 : u = [36, 41]
            · subst h2
              cases b with
              | true =>
                have HQ : Hid ((brun false (ws.drop (k + 1)) == some false) = BB) := Lib.hid (by have := HR2.out; simpa using this)
                clear HR2 HR h1
                go_wp2_with fail
                go_roundw
                case rel => exact ⟨k + 1, false, by omega, by go_num, rfl, HQ.out, HBw.out⟩
                case measure => simp [intOf]; omega
              | false =>
                have HQ : Hid (BB = false) := Lib.hid (by have := HR2.out; rw [← this]; simp)
                clear HR2 HR h1
                go_wp2_with fail
                go_ret
                exact ⟨by rw [HQ.out]; rfl, HB.out⟩
            · have t1 : (u == [36, 40]) = false := by simpa using h1
              have t2 : (u == [36, 41]) = false := by simpa using h2
              have t3 : decide (u = [36, 40]) = false := decide_eq_false h1
              have t4 : decide (u = [36, 41]) = false := decide_eq_false h2
              cases b with
              | false =>
                have HQ : Hid (BB = false) := Lib.hid (by have := HR2.out; rw [← this]; simp [h1, h2])
                clear HR2 HR h1 h2
                go_wp2_with fail
                go_ret
                exact ⟨by rw [HQ.out]; rfl, HB.out⟩
              | true =>
                obtain ⟨x1, hx1⟩ : ∃ b, hasB 36 40 u = b := ⟨_, rfl⟩
                obtain ⟨x2, hx2⟩ : ∃ b, hasB 36 41 u = b := ⟨_, rfl⟩
                have HX1 := Lib.hid hx1
                have HX2 := Lib.hid hx2
                have HQ : Hid ((if x1 || x2 then none == some false else brun true (ws.drop (k + 1)) == some false) = BB) := Lib.hid (by
                  have := HR2.out
                  rw [← this]
                  rw [if_neg (c := u = [36, 40] ∧ true = false ∨ u = [36, 41] ∧ true = true) (by simp [h2])]
                  unfold hasC
                  rw [hx1, hx2]
                  cases x1 <;> cases x2 <;> simp)
                clear HR2 HR h1 h2 hx1 hx2
                cases x1 with
                | true =>
                  go_wp2_with (go_at_call 92; refine (contains_two wr u 36 40 (HM.out.below HB.out) hul).mono ?_; rw [HX1.out]; rintro e wx ⟨rfl, rfl⟩)
                  go_ret
                  exact ⟨by rw [← HQ.out]; rfl, HB.out⟩
                | false =>
                  cases x2 with
                  | true =>
                    go_wp2_with (go_at_call 92; first | (refine (contains_two wr u 36 40 (HM.out.below HB.out) hul).mono ?_; rw [HX1.out]; rintro e wx ⟨rfl, rfl⟩) | (refine (contains_two wr u 36 41 (HM.out.below HB.out) hul).mono ?_; rw [HX2.out]; rintro e wx ⟨rfl, rfl⟩))
                    go_ret
                    exact ⟨by rw [← HQ.out]; rfl, HB.out⟩
                  | false =>
                    go_wp2_with (go_at_call 92; first | (refine (contains_two wr u 36 40 (HM.out.below HB.out) hul).mono ?_; rw [HX1.out]; rintro e wx ⟨rfl, rfl⟩) | (refine (contains_two wr u 36 41 (HM.out.below HB.out) hul).mono ?_; rw [HX2.out]; rintro e wx ⟨rfl, rfl⟩))
                    go_roundw
                    case rel => exact ⟨k + 1, true, by omega, by go_num, rfl, HQ.out, HBw.out⟩
                    case measure => simp [intOf]; omega
        · obtain rfl : k = ws.length := by omega
          rw [List.drop_length, brun] at hr
          have HQ : Hid ((!b) = BB) := Lib.hid (by rw [← hr]; cases b <;> rfl)
          clear HR hr
          go_wp2_with fail
          go_ret
          exact ⟨by rw [← HQ.out]; rfl, HB.out⟩
end Go.Proofs.YtpmbfcogkoiogaaDoor
end
section
namespace Go.Proofs.YtpmbfcogkoiogaaDoor
open Go.RowKit
/-- the gaps of a part -/
def rightG (first : Bool) : List (List UInt8) → Bool
  | [] => true
  | g :: r => gapOk first g && r.all (gapOk false)
def rightP (first : Bool) : List PartD → Bool
  | [] => true
  | x :: r => rightG first x.2 && rightP false r
def docRight (d : List PartD) (tl : List UInt8) : Bool := rightP true d && (tl.isEmpty || blankP tl && (d.isEmpty || headW? tl))
theorem rightG_drop (first : Bool) (gs : List (List UInt8)) {k : Nat} {g : List UInt8} (hg : gs[k]? = some g) : rightG (first && decide (k = 0)) (gs.drop k) = (gapOk (first && decide (k = 0)) g && rightG (first && decide (k + 1 = 0)) (gs.drop (k + 1))) := by
  have hlt := (List.getElem?_eq_some_iff.1 hg).1
  have hd : gs.drop k = g :: gs.drop (k + 1) := by
    rw [List.drop_eq_getElem_cons hlt]
    congr 1
    exact (List.getElem?_eq_some_iff.1 hg).2
  rw [hd, rightG]
  congr 1
  have : (first && decide (k + 1 = 0)) = false := by simp
  rw [this]
  cases gs.drop (k + 1) with
  | nil => rfl
  | cons a r => rw [rightG, List.all_cons]
theorem rightP_drop (d : List PartD) {i : Nat} {x : PartD} (hx : d[i]? = some x) : rightP (decide (i = 0)) (d.drop i) = (rightG (decide (i = 0)) x.2 && rightP (decide (i + 1 = 0)) (d.drop (i + 1))) := by
  have hlt := (List.getElem?_eq_some_iff.1 hx).1
  have hd : d.drop i = x :: d.drop (i + 1) := by
    rw [List.drop_eq_getElem_cons hlt]
    congr 1
    exact (List.getElem?_eq_some_iff.1 hx).2
  rw [hd, rightP]
  have : decide (i + 1 = 0) = false := by simp
  rw [this]
/-- gaps of sizes that are walked -/
def GapSz (d : List PartD) : Prop := ∀ x ∈ d, ∀ g ∈ x.2, g.length ≤ 40000
set_option maxRecDepth 100000 in
set_option maxHeartbeats 4000000 in
theorem docRight_any (w : World) (v : Value) (tl : List UInt8) (d : List PartD) (h : Parts w v d) (hM : MaxAt w) (hg : GapSz d) (ht : tl.length ≤ 40000) :
    Calls Tryd.prog 62 #[.agg #[v, .string ⟨tl.toArray⟩]] w fun e w' => e = .returned (.bool (docRight d tl)) ∧ Below w.heap.size w w' := by
  have H := Lib.hid h
  have HM := Lib.hid hM
  have HG := Lib.hid hg
  obtain ⟨A1, c1, rfl, hc1, hm1, -⟩ := h.open_
  unfold maxLen at hm1
  clear h hM hg
  obtain ⟨RR, hR⟩ : ∃ R, docRight d tl = R := ⟨_, rfl⟩
  rw [hR]
  have HR : Hid ((rightP true d && (tl.isEmpty || blankP tl && (d.isEmpty || headW? tl))) = RR) := Lib.hid hR
  clear hR
  go_enter Tryd.func62, Tryd.ntmps62
  go_wp2_with fail
  go_loopw [11] (fun iv wr => ∃ i : Nat, i ≤ d.length ∧ iv = .int .i64 i ∧ rightP true d = rightP (decide (i = 0)) (d.drop i) ∧ Row wr w.heap.size 40 #[.slice A1 d.length c1, .string ⟨tl.toArray⟩] ∧ Below w.heap.size w wr) (fun iv _ => d.length - (intOf iv).toNat)
  case atStart => exact ⟨0, Nat.zero_le _, rfl, rfl, Row.new _ _ _, new_ (Below.refl _ _) _⟩
  case round =>
    obtain ⟨wo, rfl⟩ : ∃ wo, wo = wr := ⟨_, rfl⟩
    obtain ⟨i, hi, rfl, hr, hrow, hB⟩ := hrel
    by_cases hlt : i < d.length
    · obtain ⟨y, hy⟩ : ∃ y, d[i]? = some y := ⟨_, List.getElem?_eq_getElem hlt⟩
      obtain ⟨A', c', hv, _, _, hxx⟩ := (H.out.below hB).open_
      obtain ⟨b, o, tv, pv, gv, hA, g0, g1, g2, g3, g4, hT, hP, hG⟩ := hxx i y hy
      obtain ⟨rfl, _, rfl⟩ := (by simpa using hv : A1 = A' ∧ True ∧ c1 = c')
      subst hA
      obtain ⟨T1, d1, rfl, -⟩ := hT.open_
      obtain ⟨P1, e1, rfl, -⟩ := hP.open_
      obtain ⟨G1, f1, rfl, hcg, hmg, -⟩ := hG.open_
      unfold maxLen at hmg
      have hr2 := hr
      rw [rightP_drop d hy] at hr2
      have HR2 := Lib.hid hr2
      have HGS := Lib.hid hG
      have HSZ := Lib.hid (HG.out y (List.mem_of_getElem? hy))
      have HROW := Lib.hid hrow
      have HB := Lib.hid hB
      clear hxx hv hT hP hG hy hr hr2 hrow hB
      go_wp2_with fail
      go_loopw [19] (fun kv wr => ∃ k : Nat, k ≤ y.2.length ∧ kv = .int .i64 k ∧ rightG (decide (i = 0)) y.2 = rightG (decide (i = 0) && decide (k = 0)) (y.2.drop k) ∧ Below wo.heap.size wo wr) (fun kv _ => y.2.length - (intOf kv).toNat)
      case atStart => exact ⟨0, Nat.zero_le _, rfl, by simp, new_ (Below.refl _ _) _⟩
      case round =>
        obtain ⟨k, hk, rfl, hr, hBI⟩ := hrel
        have HBI := Lib.hid hBI
        have HBA := Lib.hid (then_ HB.out hBI)
        by_cases hlk : k < y.2.length
        · obtain ⟨g, hgk⟩ : ∃ g, y.2[k]? = some g := ⟨_, List.getElem?_eq_getElem hlk⟩
          obtain ⟨A', c', hvv, _, _, hxx⟩ := (HGS.out.below hBI).open_
          obtain ⟨bb, oo, hA, q0⟩ := hxx k g hgk
          obtain ⟨rfl, _, rfl⟩ := (by simpa using hvv : G1 = A' ∧ True ∧ f1 = c')
          subst hA
          have hgl := HSZ.out g (List.mem_of_getElem? hgk)
          rw [rightG_drop _ _ hgk] at hr
          obtain ⟨ff, hff⟩ : ∃ b, (decide (i = 0) && decide (k = 0)) = b := ⟨_, rfl⟩
          rw [hff] at hr
          have HF : Hid (gapOk ff g = false → RR = false) := Lib.hid fun hz => by
            have h1 := HR.out
            rw [HR2.out, hr, hz] at h1
            simpa using h1.symm
          have HN : Hid (gapOk ff g = true → rightG (decide (i = 0)) y.2 = rightG (decide (i = 0) && decide (k + 1 = 0)) (y.2.drop (k + 1))) := Lib.hid fun hz => by rw [hr, hz, Bool.true_and]
          clear hxx hvv hgk hr hBI
          cases ff with
          | true =>
            obtain ⟨h1, h2⟩ : i = 0 ∧ k = 0 := by simpa using hff
            have e1 : ((i : Int) == 0) = true := by rw [h1]; rfl
            have e2 : ((k : Int) == 0) = true := by rw [h2]; rfl
            have e3 : (i == 0) = true := by rw [h1]; rfl
            have e4 : (k == 0) = true := by rw [h2]; rfl
            clear h1 h2 hff
            by_cases hge : g = []
            · subst hge
              go_wp2_with fail
              go_roundw
              case rel => exact ⟨k + 1, by omega, by go_num, HN.out rfl, HBI.out⟩
              case measure => simp [intOf]; omega
            · have e5 : (g == []) = false := by simpa using hge
              have e6 : g.isEmpty = false := by simpa using hge
              have HE6 := Lib.hid e6
              clear e6 hge
              go_wp2_with fail
              refine (blank_any _ g (HM.out.below HBA.out) hgl).mono ?_
              obtain ⟨x1, hx1⟩ : ∃ b, blankP g = b := ⟨_, rfl⟩
              rw [hx1]
              rintro e w2 ⟨rfl, hb2⟩
              have HB2 := Lib.hid (then_ HBI.out hb2)
              have HA2 := Lib.hid (then_ HBA.out hb2)
              have HX1 := Lib.hid hx1
              clear hb2 hx1
              cases x1 with
              | false =>
                go_wp2_with fail
                go_ret
                exact ⟨by rw [HF.out (by unfold gapOk; rw [HE6.out, Bool.and_false, if_neg (by simp), HX1.out]; rfl)]; rfl, HA2.out⟩
              | true =>
                go_wp2_with fail
                refine (ends_any _ g (by omega)).mono ?_
                obtain ⟨x2, hx2⟩ : ∃ b, lastW? g = b := ⟨_, rfl⟩
                rw [hx2]
                rintro e w3 ⟨rfl, hb3⟩
                have HB3 := Lib.hid (then_ HB2.out hb3)
                have HA3 := Lib.hid (then_ HA2.out hb3)
                have HX2 := Lib.hid hx2
                clear hb3 hx2
                cases x2 with
                | false =>
                  go_wp2_with fail
                  go_ret
                  exact ⟨by rw [HF.out (by unfold gapOk; rw [HE6.out, Bool.and_false, if_neg (by simp), HX1.out, HX2.out]; rfl)]; rfl, HA3.out⟩
                | true =>
                  go_wp2_with fail
                  go_roundw
                  case rel => exact ⟨k + 1, by omega, by go_num, HN.out (by unfold gapOk; rw [HE6.out, Bool.and_false, if_neg (by simp), HX1.out, HX2.out]; rfl), HB3.out⟩
                  case measure => simp [intOf]; omega
          | false =>
            by_cases h1 : i = 0
            · have h2 : k ≠ 0 := fun h2 => by rw [h1, h2] at hff; simp at hff
              have e1 : ((i : Int) == 0) = true := by rw [h1]; rfl
              have e2 : ((k : Int) == 0) = false := by rw [beq_eq_false_iff_ne]; omega
              have e3 : (i == 0) = true := by rw [h1]; rfl
              have e4 : (k == 0) = false := by rw [beq_eq_false_iff_ne]; omega
              clear h1 h2 hff
              go_wp2_with fail
              refine (blank_any _ g (HM.out.below HBA.out) hgl).mono ?_
              obtain ⟨x1, hx1⟩ : ∃ b, blankP g = b := ⟨_, rfl⟩
              rw [hx1]
              rintro e w2 ⟨rfl, hb2⟩
              have HB2 := Lib.hid (then_ HBI.out hb2)
              have HA2 := Lib.hid (then_ HBA.out hb2)
              have HX1 := Lib.hid hx1
              clear hb2 hx1
              cases x1 with
              | false =>
                go_wp2_with fail
                go_ret
                exact ⟨by rw [HF.out (by unfold gapOk; rw [Bool.false_and, if_neg (by simp), Bool.false_or, HX1.out]; rfl)]; rfl, HA2.out⟩
              | true =>
                go_wp2_with fail
                refine (ends_any _ g (by omega)).mono ?_
                obtain ⟨x2, hx2⟩ : ∃ b, lastW? g = b := ⟨_, rfl⟩
                rw [hx2]
                rintro e w3 ⟨rfl, hb3⟩
                have HB3 := Lib.hid (then_ HB2.out hb3)
                have HA3 := Lib.hid (then_ HA2.out hb3)
                have HX2 := Lib.hid hx2
                clear hb3 hx2
                cases x2 with
                | false =>
                  go_wp2_with fail
                  go_ret
                  exact ⟨by rw [HF.out (by unfold gapOk; rw [Bool.false_and, if_neg (by simp), Bool.false_or, HX1.out, HX2.out]; rfl)]; rfl, HA3.out⟩
                | true =>
                  go_wp2_with fail
                  refine (begins_any _ g).mono ?_
                  obtain ⟨x3, hx3⟩ : ∃ b, headW? g = b := ⟨_, rfl⟩
                  rw [hx3]
                  rintro e w4 ⟨rfl, hb4⟩
                  have HB4 := Lib.hid (then_ HB3.out hb4)
                  have HA4 := Lib.hid (then_ HA3.out hb4)
                  have HX3 := Lib.hid hx3
                  clear hb4 hx3
                  cases x3 with
                  | false =>
                    go_wp2_with fail
                    go_ret
                    exact ⟨by rw [HF.out (by unfold gapOk; rw [Bool.false_and, if_neg (by simp), Bool.false_or, HX1.out, HX2.out, HX3.out]; rfl)]; rfl, HA4.out⟩
                  | true =>
                    go_wp2_with fail
                    go_roundw
                    case rel => exact ⟨k + 1, by omega, by go_num, HN.out (by unfold gapOk; rw [Bool.false_and, if_neg (by simp), Bool.false_or, HX1.out, HX2.out, HX3.out]; rfl), HB4.out⟩
                    case measure => simp [intOf]; omega
            · have e1 : ((i : Int) == 0) = false := by rw [beq_eq_false_iff_ne]; omega
              have e3 : (i == 0) = false := by rw [beq_eq_false_iff_ne]; omega
              clear h1 hff
              go_wp2_with fail
              refine (blank_any _ g (HM.out.below HBA.out) hgl).mono ?_
              obtain ⟨x1, hx1⟩ : ∃ b, blankP g = b := ⟨_, rfl⟩
              rw [hx1]
              rintro e w2 ⟨rfl, hb2⟩
              have HB2 := Lib.hid (then_ HBI.out hb2)
              have HA2 := Lib.hid (then_ HBA.out hb2)
              have HX1 := Lib.hid hx1
              clear hb2 hx1
              cases x1 with
              | false =>
                go_wp2_with fail
                go_ret
                exact ⟨by rw [HF.out (by unfold gapOk; rw [Bool.false_and, if_neg (by simp), Bool.false_or, HX1.out]; rfl)]; rfl, HA2.out⟩
              | true =>
                go_wp2_with fail
                refine (ends_any _ g (by omega)).mono ?_
                obtain ⟨x2, hx2⟩ : ∃ b, lastW? g = b := ⟨_, rfl⟩
                rw [hx2]
                rintro e w3 ⟨rfl, hb3⟩
                have HB3 := Lib.hid (then_ HB2.out hb3)
                have HA3 := Lib.hid (then_ HA2.out hb3)
                have HX2 := Lib.hid hx2
                clear hb3 hx2
                cases x2 with
                | false =>
                  go_wp2_with fail
                  go_ret
                  exact ⟨by rw [HF.out (by unfold gapOk; rw [Bool.false_and, if_neg (by simp), Bool.false_or, HX1.out, HX2.out]; rfl)]; rfl, HA3.out⟩
                | true =>
                  go_wp2_with fail
                  refine (begins_any _ g).mono ?_
                  obtain ⟨x3, hx3⟩ : ∃ b, headW? g = b := ⟨_, rfl⟩
                  rw [hx3]
                  rintro e w4 ⟨rfl, hb4⟩
                  have HB4 := Lib.hid (then_ HB3.out hb4)
                  have HA4 := Lib.hid (then_ HA3.out hb4)
                  have HX3 := Lib.hid hx3
                  clear hb4 hx3
                  cases x3 with
                  | false =>
                    go_wp2_with fail
                    go_ret
                    exact ⟨by rw [HF.out (by unfold gapOk; rw [Bool.false_and, if_neg (by simp), Bool.false_or, HX1.out, HX2.out, HX3.out]; rfl)]; rfl, HA4.out⟩
                  | true =>
                    go_wp2_with fail
                    go_roundw
                    case rel => exact ⟨k + 1, by omega, by go_num, HN.out (by unfold gapOk; rw [Bool.false_and, if_neg (by simp), Bool.false_or, HX1.out, HX2.out, HX3.out]; rfl), HB4.out⟩
                    case measure => simp [intOf]; omega
        · obtain rfl : k = y.2.length := by omega
          have hr3 : rightP true d = rightP (decide (i + 1 = 0)) (d.drop (i + 1)) := by
            rw [HR2.out, hr, List.drop_length]
            simp [rightG]
          have HR3 := Lib.hid hr3
          clear hr hr3
          go_wp2_with fail
          go_roundw
          case rel => exact ⟨i + 1, by omega, by go_num, HR3.out, HROW.out.below HBI.out HROW.out.lt, HBA.out⟩
          case measure => simp [intOf]; omega
    · obtain rfl : i = d.length := by omega
      rw [List.drop_length] at hr
      have q0 := hrow.cell (i := 0) (v := .slice A1 d.length c1) rfl
      have q1 := hrow.cell (i := 1) (v := .string ⟨tl.toArray⟩) rfl
      have HQ : Hid ((tl.isEmpty || blankP tl && (d.isEmpty || headW? tl)) = RR) := Lib.hid (by have h1 := HR.out; rw [hr] at h1; simpa [rightP] using h1)
      have HROW := Lib.hid hrow
      have HB := Lib.hid hB
      clear hr hrow hB
      by_cases hte : tl = []
      · subst hte
        go_wp2_with fail
        go_ret
        exact ⟨by rw [← HQ.out]; rfl, HB.out⟩
      · have e5 : (tl == []) = false := by simpa using hte
        have HE6 : Hid (tl.isEmpty = false) := Lib.hid (by simpa using hte)
        clear hte
        go_wp2_with fail
        refine (blank_any _ tl (HM.out.below HB.out) ht).mono ?_
        obtain ⟨x1, hx1⟩ : ∃ b, blankP tl = b := ⟨_, rfl⟩
        rw [hx1]
        rintro e w2 ⟨rfl, hb2⟩
        have HX1 := Lib.hid hx1
        have q2 := (HROW.out.below hb2 HROW.out.lt).cell (i := 0) (v := .slice A1 d.length c1) rfl
        have q3 := (HROW.out.below hb2 HROW.out.lt).cell (i := 1) (v := .string ⟨tl.toArray⟩) rfl
        have HB2 := Lib.hid (then_ HB.out hb2)
        clear hx1 hb2 q0 q1
        cases x1 with
        | false =>
          go_wp2_with fail
          go_ret
          exact ⟨by rw [← HQ.out, HE6.out, HX1.out]; rfl, HB2.out⟩
        | true =>
          by_cases hd0 : d.length = 0
          · have e1 : ((d.length : Int) == 0) = true := by rw [hd0]; rfl
            have e2 : (d.length == 0) = true := by rw [hd0]; rfl
            have HD : Hid (d.isEmpty = true) := Lib.hid (by simpa using List.eq_nil_of_length_eq_zero hd0)
            clear hd0
            go_wp2_with fail
            go_ret
            exact ⟨by rw [← HQ.out, HE6.out, HX1.out, HD.out]; rfl, HB2.out⟩
          · have e1 : ((d.length : Int) == 0) = false := by rw [beq_eq_false_iff_ne]; omega
            have e2 : (d.length == 0) = false := by rw [beq_eq_false_iff_ne]; omega
            have HD : Hid (d.isEmpty = false) := Lib.hid (by cases d with | nil => exact absurd rfl hd0 | cons a r => rfl)
            clear hd0
            go_wp2_with fail
            refine (begins_any _ tl).mono ?_
            obtain ⟨x2, hx2⟩ : ∃ b, headW? tl = b := ⟨_, rfl⟩
            rw [hx2]
            rintro e w3 ⟨rfl, hb3⟩
            have HX2 := Lib.hid hx2
            have HB3 := Lib.hid (then_ HB2.out hb3)
            clear hx2 hb3
            go_wp2_with fail
            go_ret
            exact ⟨by rw [← HQ.out, HE6.out, HX1.out, HD.out, HX2.out]; rfl, HB3.out⟩
end Go.Proofs.YtpmbfcogkoiogaaDoor
end
