/- LayoutBack: Write of Read is the text; Parse of Words are the statements, Words of Parse the words. -/
import Derived.Test.YtpmbfcogkoiogaaDoorWordsPA
import Derived.Test.YtpmbfcogkoiogaaDoorWriteA
import Derived.Test.YtpmbfcogkoiogaaDoorDocRead
import Derived.Test.YtpmbfcogkoiogaaDoorLawParses
import Derived.Test.YtpmbfcogkoiogaaDoorDocLA
namespace Go.Proofs.YtpmbfcogkoiogaaDoor
open Go.RowKit
theorem write_ok {d : List PartD} {tl s : List UInt8} (h : writeS d tl = (s, 0)) : outS d ++ tl = s := by
  unfold writeS at h
  split at h
  · rename_i hz
    exact absurd (congrArg (·.2) h) hz
  · split at h
    · cases h
    · split at h
      · cases h
      · split at h
        · cases h
        · split at h
          · cases h
          · cases h; rfl
theorem gapsF_le (text : List UInt8) : ∀ (i : Nat) (l : List TokD), ∀ g ∈ gapsF text i l, g.length ≤ text.length
  | i, [], g, hg => by
    rw [gapsF] at hg
    simp at hg
    subst hg
    rw [List.length_drop]
    omega
  | i, t :: r, g, hg => by
    rw [gapsF] at hg
    rcases List.mem_cons.1 hg with rfl | hg
    · rw [List.length_drop, List.length_take]
      omega
    · exact gapsF_le text _ r g hg
theorem partsF_gap : ∀ (l : List StmD) (g : List (List UInt8)), ∀ x ∈ partsF l g, ∀ u ∈ x.2, u ∈ g
  | [], _, x, hx => by cases hx
  | y :: l, g, x, hx => by
    rw [partsF] at hx
    rcases List.mem_cons.1 hx with rfl | hx
    · exact fun u hu => List.mem_of_mem_take hu
    · exact fun u hu => List.mem_of_mem_drop (partsF_gap l _ x hx u hu)
theorem read_sz {text : List UInt8} {d : List PartD} {tl : List UInt8} {off : Nat} (h : docS text = (d, tl, off, 0)) (hn : text.length ≤ 3000) : WrSz d tl := by
  have hd := docS_sz text
  rw [h] at hd
  have hout := write_ok (read_write h)
  unfold docS at h
  split at h
  · rename_i hz
    exact absurd (congrArg (fun q => q.2.2.2) h) hz
  · obtain ⟨⟨l, k, pe⟩, hp⟩ : ∃ r, parseS ((stripS text).1.map (·.1)) = r := ⟨_, rfl⟩
    rw [hp] at h
    dsimp only at h
    split at h
    · rename_i hpe
      exact absurd (congrArg (fun q => q.2.2.2) h) hpe
    · rename_i hpe
      obtain rfl : pe = 0 := by simpa using hpe
      cases h
      have hf := partsF_fst l (gapsF text 0 (stripS text).1)
      obtain ⟨_, g2, g3⟩ := strip_gaps text
      refine ⟨hd, fun x hx => ?_, fun x hx g hg => ?_, ?_, by rw [hout]; omega, fun x hx u hu => ?_⟩
      · have hm : x.1 ∈ l := hf ▸ List.mem_map_of_mem hx
        have := (parse_fine hp x.1 hm).2.2.1
        rw [List.length_map] at this
        omega
      · have := gapsF_le text 0 _ g (partsF_gap l _ x hx g hg)
        omega
      · have hne : gapsF text 0 (stripS text).1 ≠ [] := fun e => by
          have := gapsF_length text 0 (stripS text).1
          rw [e] at this
          simp at this
        have hm : (gapsF text 0 (stripS text).1).getLastD [] ∈ gapsF text 0 (stripS text).1 := by
          rw [List.getLastD_eq_getLast?, List.getLast?_eq_some_getLast hne]
          exact List.getLast_mem hne
        have := gapsF_le text 0 _ _ hm
        omega
      · have hm : x.1 ∈ l := hf ▸ List.mem_map_of_mem hx
        have hu2 : u ∈ (stripS text).1.map (·.1) := by
          rw [← parse_words hp]
          exact List.mem_flatMap.2 ⟨x.1, hm, hu⟩
        obtain ⟨t, ht, rfl⟩ := List.mem_map.1 hu2
        have := g2 t ht
        omega
theorem allW_words {m : List StmD} {ws : List (List UInt8)} (h : allW m = (ws, 0)) : parseS ws = (m, 0, 0) := by
  unfold allW at h
  split at h
  · cases h
  · rename_i h2
    split at h
    · rename_i hf
      split at h
      · cases h
      · rename_i h8
        cases h
        exact words_parse (List.all_eq_true.1 hf) (by omega) (by omega)
    · cases h
set_option maxRecDepth 100000 in
set_option maxHeartbeats 4000000 in
theorem law_back (w : World) (text : List UInt8) (v mv : Value) (l : List (List UInt8)) (m : List StmD) (hv : Strs w v l) (hm : Stms w mv m) (hM : MaxAt w) (hF : FormsAt w) (h1 : l.flatten.length ≤ 1048576) (h2 : l.length ≤ 1048576)
    (h3 : nS m ≤ 1048576) (h4 : zS m ≤ 1048576) (h5 : m.length ≤ 1048576) (hz : ∀ x ∈ m, StmSz x) :
    Calls Tryd.prog 7 #[.string ⟨text.toArray⟩, v, mv] w fun e w' => e = .returned (.bool true) ∧ Below w.heap.size w w' := by
  have HV := Lib.hid hv
  have HMM := Lib.hid hm
  have HM := Lib.hid hM
  have HF := Lib.hid hF
  have H1 := Lib.hid h1
  have H3 := Lib.hid h3
  have H4 := Lib.hid h4
  have HZ := Lib.hid hz
  obtain ⟨A1, c1, rfl, -⟩ := hv.open_
  obtain ⟨A2, c2, rfl, -⟩ := hm.open_
  clear hv hm hM hF h1 h3 h4 hz
  by_cases hn : 3000 < text.length
  · have e1 : decide ((3000 : Int) < (text.length : Int)) = true := decide_eq_true (by omega)
    have e2 : decide (3000 < text.length) = true := decide_eq_true hn
    go_enter Tryd.func7, Tryd.ntmps7
    go_wp2_with fail
    refine (awake03 _ HF.out).mono ?_
    rintro e w2 ⟨rfl, hb⟩
    go_wp2_with fail
    go_ret
    exact ⟨rfl, hb⟩
  have e1 : decide ((3000 : Int) < (text.length : Int)) = false := decide_eq_false (by omega)
  have e2 : decide (3000 < text.length) = false := decide_eq_false hn
  obtain ⟨b1, hb1⟩ : ∃ b, fewB l = b := ⟨_, rfl⟩
  obtain ⟨b3, hb3⟩ : ∃ b, fewS m = b := ⟨_, rfl⟩
  have HB1 := Lib.hid hb1
  have HB3 := Lib.hid hb3
  clear hb1 hb3
  go_enter Tryd.func7, Tryd.ntmps7
  go_wp2_with fail
  refine (words_law w _ l HV.out H1.out h2).mono ?_
  rw [HB1.out]
  rintro e w2 ⟨rfl, hb2⟩
  have HB2 := Lib.hid hb2
  clear hb2
  cases b1 with
  | false =>
    go_wp2_with fail
    refine (awake03 _ (HF.out.below HB2.out)).mono ?_
    rintro e w3 ⟨rfl, hb⟩
    go_wp2_with fail
    go_ret
    exact ⟨rfl, then_ HB2.out hb⟩
  | true =>
    go_wp2_with fail
    refine (few_any w2 _ m (HMM.out.below HB2.out) H3.out H4.out h5).mono ?_
    rw [HB3.out]
    rintro e w3 ⟨rfl, hb3⟩
    have HB4 := Lib.hid (then_ HB2.out hb3)
    clear hb3
    cases b3 with
    | false =>
      go_wp2_with fail
      refine (awake03 _ (HF.out.below HB4.out)).mono ?_
      rintro e w4 ⟨rfl, hb⟩
      go_wp2_with fail
      go_ret
      exact ⟨rfl, then_ HB4.out hb⟩
    | true =>
      have HOK := Lib.hid (few_stm HB3.out HZ.out)
      have h400 : l.length ≤ 400 := by
        have h := HB1.out
        unfold fewB at h
        rw [Bool.and_eq_true] at h
        exact of_decide_eq_true h.1
      obtain ⟨⟨d, tl, off, z⟩, hd⟩ : ∃ r, docS text = r := ⟨_, rfl⟩
      have HD := Lib.hid hd
      clear hd
      go_wp2_with fail
      refine (doc_read _ text (HM.out.below HB4.out) (by omega) (HF.out.below HB4.out)).mono ?_
      rw [HD.out]
      rintro e w4 ⟨v4, rfl, hp4, hb4⟩
      obtain ⟨A4, c4, rfl⟩ := hp4.form
      have HP4 := Lib.hid hp4
      have HB5 := Lib.hid (then_ HB4.out hb4)
      clear hp4 hb4
      by_cases hz0 : z = 0
      · subst hz0
        have s1 : ((0 : Int) == 0) = true := rfl
        have s2 : ((0 : Int) != 0) = false := rfl
        have s3 : (text != text) = false := by simp
        have s4 : (text == text) = true := by simp
        go_wp2_with fail
        refine (write_doc _ _ tl d (HP4.out.below (new_ (Below.refl _ _) _)) (HM.out.below (new_ HB5.out _)) (HF.out.below (new_ HB5.out _)) (read_sz HD.out (by omega))).mono ?_
        rw [read_write HD.out]
        rintro e w6 ⟨rfl, hb6⟩
        have HB6 := Lib.hid (then_ (new_ HB5.out (.cells #[.slice A4 d.length c4, .string ⟨tl.toArray⟩] 40)) hb6)
        clear hb6
        go_wp2_with fail
        refine (parse_any _ _ l (HV.out.below HB6.out) (HF.out.below HB6.out)).mono ?_
        obtain ⟨⟨pl, pk, pz⟩, hp⟩ : ∃ r, parseS l = r := ⟨_, rfl⟩
        rw [hp]
        rintro e wp1 ⟨vp, rfl, hvp, hbp⟩
        dsimp only at hvp
        have HPP := Lib.hid hp
        have HVP := Lib.hid hvp
        have HBP1 := Lib.hid (then_ HB6.out hbp)
        obtain ⟨Ap, cp, rfl, -⟩ := Stms.open_ hvp
        clear hp hvp hbp
        by_cases hpz : pz = 0
        · subst hpz
          have t1 : ((0 : Int) == 0) = true := rfl
          have t2 : ((0 : Int) != 0) = false := rfl
          go_wp2_with fail
          refine (all_any _ _ pl HVP.out (fun x hx => by have := (parse_fine HPP.out x hx).2.2.1; omega) (HF.out.below HBP1.out)).mono ?_
          rw [parse_allW HPP.out]
          rintro e wq1 ⟨vq, rfl, hvq, hbq⟩
          dsimp only at hvq
          have HVQ := Lib.hid hvq
          have HBQ1 := Lib.hid (then_ HBP1.out hbq)
          obtain ⟨Aq, cq, rfl, -⟩ := Strs.open_ hvq
          clear hvq hbq
          go_wp2_with fail
          refine (equal_str_same _ _ _ l HVQ.out (HV.out.below HBQ1.out)).mono ?_
          rintro e wr1 ⟨rfl, hbr⟩
          have HBR1 := Lib.hid (then_ HBQ1.out hbr)
          clear hbr
          go_wp2_with fail
          refine (all_any _ _ m (HMM.out.below HBR1.out) (fun x hx => (HOK.out x hx).2.2.2) (HF.out.below HBR1.out)).mono ?_
          obtain ⟨⟨aw, az⟩, ha⟩ : ∃ r, allW m = r := ⟨_, rfl⟩
          rw [ha]
          rintro e wa2 ⟨va, rfl, hva, hba⟩
          dsimp only at hva
          have HAW := Lib.hid ha
          have HVA := Lib.hid hva
          have HBA2 := Lib.hid (then_ HBR1.out hba)
          obtain ⟨Aa, ca, rfl, -⟩ := Strs.open_ hva
          clear ha hva hba
          by_cases haz : az = 0
          · subst haz
            have u1 : ((0 : Int) == 0) = true := rfl
            have u2 : ((0 : Int) != 0) = false := rfl
            go_wp2_with fail
            refine (parse_any _ _ aw HVA.out (HF.out.below HBA2.out)).mono ?_
            rw [allW_words HAW.out]
            rintro e wb2 ⟨vb, rfl, hvb, hbb⟩
            dsimp only at hvb
            have HVB := Lib.hid hvb
            have HBB2 := Lib.hid (then_ HBA2.out hbb)
            obtain ⟨Ab, cb, rfl, -⟩ := Stms.open_ hvb
            clear hvb hbb
            go_wp2_with fail
            refine (equalStms _ _ _ m HVB.out (HMM.out.below HBB2.out)).mono ?_
            rintro e wc2 ⟨rfl, hbc⟩
            have HBC2 := Lib.hid (then_ HBB2.out hbc)
            clear hbc
            go_wp2_with fail
            refine (awake03 _ (HF.out.below HBC2.out)).mono ?_
            rintro e wz ⟨rfl, hbz⟩
            go_wp2_with fail
            go_ret
            exact ⟨rfl, then_ HBC2.out hbz⟩
          · have u1 : (az == 0) = false := by simpa using haz
            clear haz
            go_wp2_with fail
            refine (awake03 _ (HF.out.below HBA2.out)).mono ?_
            rintro e wz ⟨rfl, hbz⟩
            go_wp2_with fail
            go_ret
            exact ⟨rfl, then_ HBA2.out hbz⟩
        · have t1 : (pz == 0) = false := by simpa using hpz
          clear hpz
          go_wp2_with fail
          refine (all_any _ _ m (HMM.out.below HBP1.out) (fun x hx => (HOK.out x hx).2.2.2) (HF.out.below HBP1.out)).mono ?_
          obtain ⟨⟨aw, az⟩, ha⟩ : ∃ r, allW m = r := ⟨_, rfl⟩
          rw [ha]
          rintro e wa5 ⟨va, rfl, hva, hba⟩
          dsimp only at hva
          have HAW := Lib.hid ha
          have HVA := Lib.hid hva
          have HBA5 := Lib.hid (then_ HBP1.out hba)
          obtain ⟨Aa, ca, rfl, -⟩ := Strs.open_ hva
          clear ha hva hba
          by_cases haz : az = 0
          · subst haz
            have u1 : ((0 : Int) == 0) = true := rfl
            have u2 : ((0 : Int) != 0) = false := rfl
            go_wp2_with fail
            refine (parse_any _ _ aw HVA.out (HF.out.below HBA5.out)).mono ?_
            rw [allW_words HAW.out]
            rintro e wb5 ⟨vb, rfl, hvb, hbb⟩
            dsimp only at hvb
            have HVB := Lib.hid hvb
            have HBB5 := Lib.hid (then_ HBA5.out hbb)
            obtain ⟨Ab, cb, rfl, -⟩ := Stms.open_ hvb
            clear hvb hbb
            go_wp2_with fail
            refine (equalStms _ _ _ m HVB.out (HMM.out.below HBB5.out)).mono ?_
            rintro e wc5 ⟨rfl, hbc⟩
            have HBC5 := Lib.hid (then_ HBB5.out hbc)
            clear hbc
            go_wp2_with fail
            refine (awake03 _ (HF.out.below HBC5.out)).mono ?_
            rintro e wz ⟨rfl, hbz⟩
            go_wp2_with fail
            go_ret
            exact ⟨rfl, then_ HBC5.out hbz⟩
          · have u1 : (az == 0) = false := by simpa using haz
            clear haz
            go_wp2_with fail
            refine (awake03 _ (HF.out.below HBA5.out)).mono ?_
            rintro e wz ⟨rfl, hbz⟩
            go_wp2_with fail
            go_ret
            exact ⟨rfl, then_ HBA5.out hbz⟩
      · have s1 : (z == 0) = false := by simpa using hz0
        have HB6 := Lib.hid (new_ HB5.out (.cells #[.slice A4 d.length c4, .string ⟨tl.toArray⟩] 40))
        clear hz0
        go_wp2_with fail
        refine (parse_any _ _ l (HV.out.below HB6.out) (HF.out.below HB6.out)).mono ?_
        obtain ⟨⟨pl, pk, pz⟩, hp⟩ : ∃ r, parseS l = r := ⟨_, rfl⟩
        rw [hp]
        rintro e wp8 ⟨vp, rfl, hvp, hbp⟩
        dsimp only at hvp
        have HPP := Lib.hid hp
        have HVP := Lib.hid hvp
        have HBP8 := Lib.hid (then_ HB6.out hbp)
        obtain ⟨Ap, cp, rfl, -⟩ := Stms.open_ hvp
        clear hp hvp hbp
        by_cases hpz : pz = 0
        · subst hpz
          have t1 : ((0 : Int) == 0) = true := rfl
          have t2 : ((0 : Int) != 0) = false := rfl
          go_wp2_with fail
          refine (all_any _ _ pl HVP.out (fun x hx => by have := (parse_fine HPP.out x hx).2.2.1; omega) (HF.out.below HBP8.out)).mono ?_
          rw [parse_allW HPP.out]
          rintro e wq8 ⟨vq, rfl, hvq, hbq⟩
          dsimp only at hvq
          have HVQ := Lib.hid hvq
          have HBQ8 := Lib.hid (then_ HBP8.out hbq)
          obtain ⟨Aq, cq, rfl, -⟩ := Strs.open_ hvq
          clear hvq hbq
          go_wp2_with fail
          refine (equal_str_same _ _ _ l HVQ.out (HV.out.below HBQ8.out)).mono ?_
          rintro e wr8 ⟨rfl, hbr⟩
          have HBR8 := Lib.hid (then_ HBQ8.out hbr)
          clear hbr
          go_wp2_with fail
          refine (all_any _ _ m (HMM.out.below HBR8.out) (fun x hx => (HOK.out x hx).2.2.2) (HF.out.below HBR8.out)).mono ?_
          obtain ⟨⟨aw, az⟩, ha⟩ : ∃ r, allW m = r := ⟨_, rfl⟩
          rw [ha]
          rintro e wa9 ⟨va, rfl, hva, hba⟩
          dsimp only at hva
          have HAW := Lib.hid ha
          have HVA := Lib.hid hva
          have HBA9 := Lib.hid (then_ HBR8.out hba)
          obtain ⟨Aa, ca, rfl, -⟩ := Strs.open_ hva
          clear ha hva hba
          by_cases haz : az = 0
          · subst haz
            have u1 : ((0 : Int) == 0) = true := rfl
            have u2 : ((0 : Int) != 0) = false := rfl
            go_wp2_with fail
            refine (parse_any _ _ aw HVA.out (HF.out.below HBA9.out)).mono ?_
            rw [allW_words HAW.out]
            rintro e wb9 ⟨vb, rfl, hvb, hbb⟩
            dsimp only at hvb
            have HVB := Lib.hid hvb
            have HBB9 := Lib.hid (then_ HBA9.out hbb)
            obtain ⟨Ab, cb, rfl, -⟩ := Stms.open_ hvb
            clear hvb hbb
            go_wp2_with fail
            refine (equalStms _ _ _ m HVB.out (HMM.out.below HBB9.out)).mono ?_
            rintro e wc9 ⟨rfl, hbc⟩
            have HBC9 := Lib.hid (then_ HBB9.out hbc)
            clear hbc
            go_wp2_with fail
            refine (awake03 _ (HF.out.below HBC9.out)).mono ?_
            rintro e wz ⟨rfl, hbz⟩
            go_wp2_with fail
            go_ret
            exact ⟨rfl, then_ HBC9.out hbz⟩
          · have u1 : (az == 0) = false := by simpa using haz
            clear haz
            go_wp2_with fail
            refine (awake03 _ (HF.out.below HBA9.out)).mono ?_
            rintro e wz ⟨rfl, hbz⟩
            go_wp2_with fail
            go_ret
            exact ⟨rfl, then_ HBA9.out hbz⟩
        · have t1 : (pz == 0) = false := by simpa using hpz
          clear hpz
          go_wp2_with fail
          refine (all_any _ _ m (HMM.out.below HBP8.out) (fun x hx => (HOK.out x hx).2.2.2) (HF.out.below HBP8.out)).mono ?_
          obtain ⟨⟨aw, az⟩, ha⟩ : ∃ r, allW m = r := ⟨_, rfl⟩
          rw [ha]
          rintro e wa12 ⟨va, rfl, hva, hba⟩
          dsimp only at hva
          have HAW := Lib.hid ha
          have HVA := Lib.hid hva
          have HBA12 := Lib.hid (then_ HBP8.out hba)
          obtain ⟨Aa, ca, rfl, -⟩ := Strs.open_ hva
          clear ha hva hba
          by_cases haz : az = 0
          · subst haz
            have u1 : ((0 : Int) == 0) = true := rfl
            have u2 : ((0 : Int) != 0) = false := rfl
            go_wp2_with fail
            refine (parse_any _ _ aw HVA.out (HF.out.below HBA12.out)).mono ?_
            rw [allW_words HAW.out]
            rintro e wb12 ⟨vb, rfl, hvb, hbb⟩
            dsimp only at hvb
            have HVB := Lib.hid hvb
            have HBB12 := Lib.hid (then_ HBA12.out hbb)
            obtain ⟨Ab, cb, rfl, -⟩ := Stms.open_ hvb
            clear hvb hbb
            go_wp2_with fail
            refine (equalStms _ _ _ m HVB.out (HMM.out.below HBB12.out)).mono ?_
            rintro e wc12 ⟨rfl, hbc⟩
            have HBC12 := Lib.hid (then_ HBB12.out hbc)
            clear hbc
            go_wp2_with fail
            refine (awake03 _ (HF.out.below HBC12.out)).mono ?_
            rintro e wz ⟨rfl, hbz⟩
            go_wp2_with fail
            go_ret
            exact ⟨rfl, then_ HBC12.out hbz⟩
          · have u1 : (az == 0) = false := by simpa using haz
            clear haz
            go_wp2_with fail
            refine (awake03 _ (HF.out.below HBA12.out)).mono ?_
            rintro e wz ⟨rfl, hbz⟩
            go_wp2_with fail
            go_ret
            exact ⟨rfl, then_ HBA12.out hbz⟩
end Go.Proofs.YtpmbfcogkoiogaaDoor
