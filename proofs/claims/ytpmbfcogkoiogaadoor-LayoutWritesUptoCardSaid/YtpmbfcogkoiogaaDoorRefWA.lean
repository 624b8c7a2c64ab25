/- Layout: a blank text, by the reference. Layout: Write of the reference. -/
import Derived.Test.YtpmbfcogkoiogaaDoorWordsPA
import Derived.Test.YtpmbfcogkoiogaaDoorStripRef
import Derived.Test.YtpmbfcogkoiogaaDoorWriteA
import Derived.Test.YtpmbfcogkoiogaaDoorDocLA
import Derived.Deep.QuietTactic
import Derived.BigQuiet
section
namespace Go.Proofs.YtpmbfcogkoiogaaDoor
open Go.RowKit
theorem sp_dec (b : UInt8) : sp b = decide (cls b.toNat = 1) := by
  unfold sp
  rw [Bool.eq_iff_iff, beq_iff_eq, decide_eq_true_iff]
theorem head_at {g : List UInt8} (h : 0 < g.length) : headW? g = decide (cls g[0].toNat = 1) := by
  cases g with
  | nil => simp at h
  | cons a r => exact sp_dec a
theorem last_at {g : List UInt8} {n : Nat} (hn : g.length = n + 1) (h : n < g.length) : lastW? g = decide (cls g[n].toNat = 1) := by
  unfold lastW?
  rw [List.getLast?_eq_getElem?, hn, Nat.add_sub_cancel, List.getElem?_eq_getElem h]
  exact sp_dec _
theorem docRight_ref {d : List PartD} {tl : List UInt8} (h : rightP true d = true) : docRight d tl = (blankP tl && (d.isEmpty || tl.isEmpty || headW? tl)) := by
  unfold docRight
  rw [h, Bool.true_and]
  by_cases ht : tl = []
  · subst ht
    rw [show blankP [] = true by unfold blankP; rw [toks_nil]; rfl]
    simp
  · rw [show tl.isEmpty = false by simpa using ht]
    simp
theorem scan_out {s : List UInt8} (h4 : ¬ 40000 < s.length) (hb : ∀ b ∈ s, byteB b = true) : (scanS s).2.2 = if 8000 < (toks 0 s).length then 8 else 0 := by
  have hf : s.findIdx? (fun b => cls b.toNat == 0) = none := by
    rw [List.findIdx?_eq_none_iff]
    intro b h
    have := hb b h
    unfold byteB at this
    simpa using this
  unfold scanS
  rw [if_neg h4, hf]
  dsimp only
  by_cases h8 : 8000 < (toks 0 s).length
  · rw [if_pos h8, List.getElem?_eq_getElem h8]
  · rw [if_neg h8, List.getElem?_eq_none (by omega)]
theorem cat_run {a b c : List UInt8} (h : a ++ b = c) (hl : a.length + b.length ≤ 1000000000) : Op.stringOp .add ⟨a.toArray⟩ ⟨b.toArray⟩ = pure (.string ⟨c.toArray⟩) := by
  have h2 : (ByteArray.mk a.toArray ++ ByteArray.mk b.toArray) = ByteArray.mk c.toArray := by rw [← h]; exact bytes_append a b
  have h3 : (ByteArray.mk a.toArray).size = a.length := by simp [ByteArray.size]
  have h4 : (ByteArray.mk b.toArray).size = b.length := by simp [ByteArray.size]
  unfold Op.stringOp
  have e : ¬ ((((ByteArray.mk a.toArray).size + (ByteArray.mk b.toArray).size : Nat) : Int) > IntKind.i64.max) := by
    have : IntKind.i64.max = 9223372036854775807 := rfl
    rw [h3, h4]
    omega
  simp only [if_neg e, h2]
theorem ref_blank (w : World) (s : List UInt8) (hs : s.length ≤ 8000) : Calls Tryd.prog 65 #[.string ⟨s.toArray⟩] w fun e w' => e = .returned (.bool (blankP s)) ∧ Below w.heap.size w w' := by
  have hb := blank_strip (s := s) (by omega) (Nat.le_trans (toks_len s.length s 0 (Nat.le_refl _)) hs)
  rw [hb]
  obtain ⟨⟨L, C, a, z⟩, hR⟩ : ∃ R, stripS s = R := ⟨_, rfl⟩
  have HR := Lib.hid hR
  rw [hR]
  dsimp only
  clear hR hb
  go_enter Tryd.func65, Tryd.ntmps65
  go_wp2_with fail
  refine (ref_strip _ s).mono ?_
  simp only [HR.out]
  rintro e w1 ⟨v1, v2, rfl, hv1, hv2, hb1⟩
  obtain ⟨A1, c1, rfl, -⟩ := hv1.open_
  obtain ⟨A2, c2, rfl, -⟩ := hv2
  have HB := Lib.hid hb1
  clear hv1 hb1
  by_cases hz : z = 0
  · subst hz
    by_cases hl : L = []
    · subst hl
      go_wp2_with fail
      go_ret
      exact ⟨by simp, HB.out⟩
    · have e1 : ((L.length : Int) == 0) = false := by simpa using hl
      have e2 : (L.length == 0) = false := by simpa using hl
      have HL := Lib.hid hl
      clear hl
      go_wp2_with fail
      go_ret
      exact ⟨by simp [HL.out], HB.out⟩
  · have e1 : (z == 0) = false := by simpa using hz
    have HZ := Lib.hid hz
    clear hz
    go_wp2_with fail
    go_ret
    exact ⟨by simp [HZ.out], HB.out⟩
end Go.Proofs.YtpmbfcogkoiogaaDoor
end
section
namespace Go.Proofs.YtpmbfcogkoiogaaDoor
open Go.RowKit
attribute [local go_sem ↓] Go.wp_at_zero Go.wp_at_succ
/-- the sizes that the reference's Write is walked at -/
structure RefSz (d : List PartD) (tl : List UInt8) : Prop where
  doc : DocSz d
  ok : ∀ x ∈ d, StmOk x.1
  gaps : ∀ x ∈ d, ∀ g ∈ x.2, g.length ≤ 8000
  tail : tl.length ≤ 8000
  all : (outS d ++ tl).length ≤ 1000000
  words : ∀ x ∈ d, ∀ u ∈ wordsS x.1, u.length ≤ 1000000
set_option maxRecDepth 100000 in
set_option maxHeartbeats 8000000 in
theorem ref_write_doc (w : World) (v : Value) (tl : List UInt8) (d : List PartD) (h : Parts w v d) (hs : RefSz d tl) :
    Calls Tryd.prog 31 #[.agg #[v, .string ⟨tl.toArray⟩]] w fun e w' => e = .returned (.tuple #[.string ⟨(writeS d tl).1.toArray⟩, .int .i64 (writeS d tl).2]) ∧ Below w.heap.size w w' := by
  have H := Lib.hid h
  have HS := Lib.hid hs
  obtain ⟨A1, c1, rfl, hc1, hm1, -⟩ := h.open_
  unfold maxLen at hm1
  clear h hs
  obtain ⟨⟨r1, r2⟩, hR⟩ : ∃ R, writeS d tl = R := ⟨_, rfl⟩
  rw [hR]
  have HR := Lib.hid hR
  clear hR
  obtain ⟨⟨ws, z⟩, hW⟩ : ∃ R, allW (d.map (·.1)) = R := ⟨_, rfl⟩
  have HW := Lib.hid hW
  clear hW
  go_enter Tryd.func31, Tryd.ntmps31
  go_wp2_with fail
  refine (ref_statements _ _ tl d (H.out.below (new_ (Below.refl _ _) _)) HS.out.doc.1).mono ?_
  rintro e w2 ⟨v2, rfl, hv2, hb2⟩
  have HV2 := Lib.hid hv2
  have HB2 := Lib.hid (then_ (new_ (Below.refl _ w) (.cells #[.slice A1 d.length c1, .string ⟨tl.toArray⟩] 45)) hb2)
  have HR1 := Lib.hid ((Row.new w 45 #[.slice A1 d.length c1, .string ⟨tl.toArray⟩]).below hb2 (by simp))
  obtain ⟨A2, c2, rfl, -⟩ := hv2.open_
  rw [List.length_map]
  replace HV2 : Hid (Stms w2 (.slice A2 d.length c2) (d.map (·.1))) := Lib.hid (by have h := HV2.out; rwa [List.length_map] at h)
  clear hv2 hb2
  go_wp2_with fail
  refine (ref_all _ _ (d.map (·.1)) HV2.out (fun x hx => by obtain ⟨y, hy, rfl⟩ := List.mem_map.1 hx; exact HS.out.ok y hy)).mono ?_
  rw [HW.out]
  rintro e w3 ⟨v3, rfl, hv3, hb3⟩
  have HB3 := Lib.hid (then_ HB2.out hb3)
  have HR3 := Lib.hid (HR1.out.below hb3 HR1.out.lt)
  obtain ⟨A3, c3, rfl, -⟩ := hv3.open_
  clear hv3 hb3
  by_cases hz : z = 0
  · subst hz
    have e1 : ((0 : Int) != 0) = false := rfl
    have q0 := HR3.out.cell (i := 0) (v := .slice A1 d.length c1) rfl
    have q1 := HR3.out.cell (i := 1) (v := .string ⟨tl.toArray⟩) rfl
    have hall := allW_fine (HW.out ▸ rfl : (allW (d.map (·.1))).2 = 0)
    have HALL := Lib.hid hall
    have hd := HS.out.doc.1
    clear hall
    go_wp2_with fail
    go_loopw [6] (fun iv wr => ∃ i : Nat, i ≤ d.length ∧ iv = .int .i64 i ∧ (∀ (j : Nat) x, j < i → d[j]? = some x → x.2.length = (wordsS x.1).length) ∧ Below w3.heap.size w3 wr) (fun iv _ => d.length - (intOf iv).toNat)
    case atStart => exact ⟨0, Nat.zero_le _, rfl, fun j x h => by omega, Below.refl _ _⟩
    case round =>
      obtain ⟨wo, rfl⟩ : ∃ wo, wo = wr := ⟨_, rfl⟩
      obtain ⟨i, hi, rfl, hok, hB⟩ := hrel
      have HOK := Lib.hid hok
      have HB := Lib.hid (then_ HB3.out hB)
      have HBI := Lib.hid hB
      have HR4 := Lib.hid (HR3.out.below hB HR3.out.lt)
      have p0 := HR4.out.cell (i := 0) (v := .slice A1 d.length c1) rfl
      have p1 := HR4.out.cell (i := 1) (v := .string ⟨tl.toArray⟩) rfl
      clear q0 q1 hok hB
      by_cases hlt : i < d.length
      · obtain ⟨y, hy⟩ : ∃ y, d[i]? = some y := ⟨_, List.getElem?_eq_getElem hlt⟩
        obtain ⟨A', c', hv, _, _, hxx⟩ := (H.out.below HB.out).open_
        obtain ⟨b, o, tv, pv, gv, hA, g0, g1, g2, g3, g4, hT, hP, hG⟩ := hxx i y hy
        obtain ⟨rfl, _, rfl⟩ := (by simpa using hv : A1 = A' ∧ True ∧ c1 = c')
        subst hA
        obtain ⟨T1, d1, rfl, -⟩ := hT.open_
        obtain ⟨P1, e1, rfl, -⟩ := hP.open_
        obtain ⟨G1, f1, rfl, hcg, hmg, -⟩ := hG.open_
        have hmem := List.mem_of_getElem? hy
        have HK := Lib.hid (formed_kind (HALL.out y.1 (List.mem_map_of_mem hmem)))
        have HK0 := Lib.hid (formed_none (HALL.out y.1 (List.mem_map_of_mem hmem)))
        have HN := Lib.hid (HS.out.doc.2 y hmem)
        have HT := Lib.hid hT
        have HP := Lib.hid hP
        have HY := Lib.hid hy
        obtain ⟨bl, hbl⟩ : ∃ b, (y.2.length != (wordsS y.1).length) = b := ⟨_, rfl⟩
        have hbl2 : ((y.2.length : Int) != ((wordsS y.1).length : Int)) = bl := by rw [← hbl]; exact congrArg (!·) (beq_cast _ _)
        have HBL := Lib.hid hbl
        clear hxx hv hT hP hG hmem hy
        go_wp2_with fail
        go_region_held3 (fun W' => W'.cell? ⟨w.heap.size, 0, none⟩ = some (.slice (some ⟨b, o, none⟩) d.length c1) ∧ W'.cell? ⟨b, o + i * 5, none⟩ = some (.int .i64 y.1.kind) ∧ W'.cell? ⟨b, o + i * 5 + 1, none⟩ = some (.string ⟨y.1.label.toArray⟩) ∧ W'.cell? ⟨b, o + i * 5 + 2, none⟩ = some (.slice T1 y.1.text.length d1) ∧ W'.cell? ⟨b, o + i * 5 + 3, none⟩ = some (.slice P1 y.1.proof.length e1) ∧ W'.cell? ⟨b, o + i * 5 + 4, none⟩ = some (.slice G1 y.2.length f1)) (go_keep) ((go_at_call 44; (refine (ref_words _ y.1 _ _ (Strs.below HT.out (Below.refl _ _).drew) (Strs.below HP.out (Below.refl _ _).drew) HK.out HK0.out HN.out.1 HN.out.2).mono ?_; rintro e w5 ⟨v5, rfl, hv5, hb5⟩; obtain ⟨A5, c5, rfl, -⟩ := hv5.open_; have k0 := (hb5.cell (p := ⟨w.heap.size, 0, none⟩) (cell_lt p0)).trans p0; have k1 := (hb5.cell (p := ⟨b, o + i * 5, none⟩) (cell_lt g0)).trans g0; have k2 := (hb5.cell (p := ⟨b, o + i * 5 + 1, none⟩) (cell_lt g1)).trans g1; have k3 := (hb5.cell (p := ⟨b, o + i * 5 + 2, none⟩) (cell_lt g2)).trans g2; have k4 := (hb5.cell (p := ⟨b, o + i * 5 + 3, none⟩) (cell_lt g3)).trans g3; have k5 := (hb5.cell (p := ⟨b, o + i * 5 + 4, none⟩) (cell_lt g4)).trans g4; have HB5 := Lib.hid (then_ (Below.refl _ wo).drew hb5))))
        cases bl with
        | true =>
          have HQ : Hid (r1 = [] ∧ r2 = 4) := Lib.hid (by
            have h1 := HR.out
            unfold writeS at h1
            rw [HW.out] at h1
            dsimp only at h1
            have hl : lensS d = false := by
              unfold lensS
              rw [List.all_eq_false]
              exact ⟨y, List.mem_of_getElem? HY.out, by simpa using HBL.out⟩
            rw [if_neg (by simp), if_pos hl] at h1
            cases h1
            exact ⟨rfl, rfl⟩)
          go_wp2_with fail
          refine bodyPost_ret (v := .tuple #[.string ⟨#[]⟩, .int .i64 4]) (by simp [results, Tryd.results31, go_sem]) rfl ?_
          rw [HQ.out.1, HQ.out.2]
          exact ⟨rfl, then_ HB.out HB5.out⟩
        | false =>
          go_wp2_with fail
          go_roundw
          case rel => exact ⟨i + 1, by omega, by go_num, fun j x hj hx => by
            by_cases e : j = i
            · subst e
              rw [HY.out] at hx
              cases hx
              simpa using HBL.out
            · exact HOK.out j x (by omega) hx, then_ HBI.out HB5.out⟩
          case measure => simp [intOf]; omega
      · obtain rfl : i = d.length := by omega
        have hlen : lensS d = true := by
          unfold lensS
          rw [List.all_eq_true]
          intro x hx
          obtain ⟨j, hj⟩ := List.getElem?_of_mem hx
          simpa using HOK.out j x (List.getElem?_eq_some_iff.1 hj).1 hj
        have HLEN := Lib.hid hlen
        have HBAD : Hid (docRight d tl = false → r1 = [] ∧ r2 = 2) := Lib.hid fun hz => by
            have h1 := HR.out
            unfold writeS at h1
            rw [HW.out] at h1
            dsimp only at h1
            rw [if_neg (by simp), if_neg (by rw [HLEN.out]; simp), if_pos hz] at h1
            cases h1
            exact ⟨rfl, rfl⟩
        obtain ⟨w4, hw4⟩ : ∃ w4, w4 = wo := ⟨_, rfl⟩
        subst hw4
        have HB4 := HB
        have HR5 := HR4
        clear HOK HBI HR4 hlen HB hi
        go_wp2_with fail
        go_loopw [7, 8] (fun sv iv wr => ∃ i : Nat, i ≤ d.length ∧ iv = .int .i64 i ∧ sv = .int .i64 ((tl.length + (outS (d.take i)).length : Nat) : Int) ∧ rightP true d = rightP (decide (i = 0)) (d.drop i) ∧ Below w4.heap.size w4 wr) (fun _ iv _ => d.length - (intOf iv).toNat)
        case atStart => exact ⟨0, Nat.zero_le _, rfl, rfl, rfl, Below.refl _ _⟩
        case round =>
          obtain ⟨wo, rfl⟩ : ∃ wo, wo = wr := ⟨_, rfl⟩
          obtain ⟨i, hi, rfl, rfl, hr, hB⟩ := hrel
          have HB := Lib.hid (then_ HB4.out hB)
          have HBI0 := Lib.hid hB
          have HRO := Lib.hid (HR5.out.below hB HR5.out.lt)
          have p0 := HRO.out.cell (i := 0) (v := .slice A1 d.length c1) rfl
          have p1 := HRO.out.cell (i := 1) (v := .string ⟨tl.toArray⟩) rfl
          clear hB
          by_cases hlt : i < d.length
          · obtain ⟨y, hy⟩ : ∃ y, d[i]? = some y := ⟨_, List.getElem?_eq_getElem hlt⟩
            obtain ⟨A', c', hv, _, _, hxx⟩ := (H.out.below HB.out).open_
            obtain ⟨b, o, tv, pv, gv, hA, g0, g1, g2, g3, g4, hT, hP, hG⟩ := hxx i y hy
            obtain ⟨rfl, _, rfl⟩ := (by simpa using hv : A1 = A' ∧ True ∧ c1 = c')
            subst hA
            obtain ⟨T1, d1, rfl, -⟩ := hT.open_
            obtain ⟨P1, e1, rfl, -⟩ := hP.open_
            obtain ⟨G1, f1, rfl, hcg, hmg, -⟩ := hG.open_
            unfold maxLen at hmg
            have hmem := List.mem_of_getElem? hy
            have HK := Lib.hid (formed_kind (HALL.out y.1 (List.mem_map_of_mem hmem)))
            have HK0 := Lib.hid (formed_none (HALL.out y.1 (List.mem_map_of_mem hmem)))
            have HN := Lib.hid (HS.out.doc.2 y hmem)
            have HT := Lib.hid hT
            have HP := Lib.hid hP
            have HG := Lib.hid hG
            have HY := Lib.hid hy
            have HYL : Hid (y.2.length = (wordsS y.1).length) := Lib.hid (by
              have h1 := List.all_eq_true.1 HLEN.out y hmem
              simpa using h1)
            have HGZ := Lib.hid (HS.out.gaps y hmem)
            have HWZ := Lib.hid (HS.out.words y hmem)
            have hr2 := hr
            rw [rightP_drop d hy] at hr2
            have HR2 := Lib.hid hr2
            clear hxx hv hT hP hG hmem hy hr hr2
            go_wp2_with fail
            refine (ref_words _ y.1 _ _ HT.out HP.out HK.out HK0.out HN.out.1 HN.out.2).mono ?_
            rintro e w7 ⟨v7, rfl, hv7, hb7⟩
            obtain ⟨A7, c7, rfl, hc7, hm7, -⟩ := hv7.open_
            unfold maxLen at hm7
            have HV7 := Lib.hid hv7
            have HB7 := Lib.hid (then_ HB.out hb7)
            have HI7 := Lib.hid hb7
            clear hv7 hb7 p0 p1
            go_wp2_with fail
            go_loopw [7, 10] (fun sv kv wq => ∃ k : Nat, k ≤ (wordsS y.1).length ∧ kv = .int .i64 k ∧ sv = .int .i64 ((tl.length + (outS (d.take i) ++ ((y.2.zip (wordsS y.1)).take k).flatMap fun p => p.1 ++ p.2).length : Nat) : Int) ∧ rightG (decide (i = 0)) y.2 = rightG (decide (i = 0) && decide (k = 0)) (y.2.drop k) ∧ Below w7.heap.size w7 wq) (fun _ kv _ => (wordsS y.1).length - (intOf kv).toNat)
            case atStart => exact ⟨0, Nat.zero_le _, rfl, by simp, by simp, Below.refl _ _⟩
            case round =>
              obtain ⟨k, hk, rfl, hsv, hr, hBI⟩ := hrel
              by_cases hlk : k < (wordsS y.1).length
              · obtain ⟨u, hu⟩ : ∃ u, (wordsS y.1)[k]? = some u := ⟨_, List.getElem?_eq_getElem hlk⟩
                obtain ⟨g, hg⟩ : ∃ g, y.2[k]? = some g := ⟨_, List.getElem?_eq_getElem (by have := HYL.out; omega)⟩
                have hky : k < y.2.length := by have := HYL.out; omega
                have hgl := HGZ.out g (List.mem_of_getElem? hg)
                have hul := HWZ.out u (List.mem_of_getElem? hu)
                obtain ⟨A8, c8, hv8, hc8, hm8, hx8⟩ := Strs.open_ (Strs.below HV7.out hBI)
                obtain ⟨b8, o8, hA8, q8⟩ := hx8 k u hu
                obtain ⟨rfl, _, rfl⟩ := (by simpa using hv8 : A7 = A8 ∧ True ∧ c7 = c8)
                subst hA8
                obtain ⟨A9, c9, hv9, hc9, hm9, hx9⟩ := Strs.open_ (Strs.below HG.out (then_ HI7.out hBI))
                obtain ⟨b9, o9, hA9, q9⟩ := hx9 k g hg
                obtain ⟨rfl, _, rfl⟩ := (by simpa using hv9 : G1 = A9 ∧ True ∧ f1 = c9)
                subst hA9
                have k4 := cellB g4 (then_ HI7.out hBI)
                have p0 := (HRO.out.below (then_ HI7.out hBI) HRO.out.lt).cell (i := 0) (v := .slice (some ⟨b, o, none⟩) d.length c1) rfl
                obtain ⟨M, hM⟩ : ∃ M, outS (d.take i) ++ ((y.2.zip (wordsS y.1)).take k).flatMap (fun p => p.1 ++ p.2) = M := ⟨_, rfl⟩
                have hnext : outS (d.take i) ++ ((y.2.zip (wordsS y.1)).take (k + 1)).flatMap (fun p => p.1 ++ p.2) = M ++ (g ++ u) := by
                  rw [← hM, take_snoc (show (y.2.zip (wordsS y.1))[k]? = some (g, u) by rw [List.getElem?_zip_eq_some]; exact ⟨hg, hu⟩), List.flatMap_append]
                  simp
                have hMl : M.length ≤ 1000000 := by
                  have h1 := HS.out.all
                  rw [List.length_append, out_split HY.out k, hM] at h1
                  omega
                have HNX := Lib.hid hnext
                rw [hM] at hsv
                subst hsv
                have HBI := Lib.hid hBI
                have HBA := Lib.hid (then_ HB7.out hBI)
                rw [rightG_drop _ _ hg] at hr
                obtain ⟨ff, hff⟩ : ∃ b, (decide (i = 0) && decide (k = 0)) = b := ⟨_, rfl⟩
                rw [hff] at hr
                have HF : Hid (gapOk ff g = false → docRight d tl = false) := Lib.hid fun hz => by
                  unfold docRight
                  rw [HR2.out, hr, hz]
                  rfl
                have HN2 : Hid (gapOk ff g = true → rightG (decide (i = 0)) y.2 = rightG (decide (i = 0) && decide (k + 1 = 0)) (y.2.drop (k + 1))) := Lib.hid fun hz => by rw [hr, hz, Bool.true_and]
                have htl := HS.out.tail
                clear hv8 hx8 hv9 hx9 hu hg hr hBI hM hnext g0 g1 g2 g3 g4
                cases ff with
                | true =>
                  obtain ⟨h1, h2⟩ : i = 0 ∧ k = 0 := by simpa using hff
                  have e1 : ((i : Int) == 0) = true := by rw [h1]; rfl
                  have e2 : ((k : Int) == 0) = true := by rw [h2]; rfl
                  have e3 : (i == 0) = true := by rw [h1]; rfl
                  have e4 : (k == 0) = true := by rw [h2]; rfl
                  clear h1 h2 hff
                  by_cases hge : g = []
                  · subst hge
                    go_wp2_with fail
                    refine (ref_blank _ [] (by simp)).mono ?_
                    rw [show blankP [] = true by unfold blankP; rw [toks_nil]; rfl]
                    rintro e w10 ⟨rfl, hb10⟩
                    have HB10 := Lib.hid (then_ HBI.out hb10)
                    have r8 := cellB q8 hb10
                    clear hb10
                    go_wp2_with fail
                    go_roundw
                    case rel => exact ⟨k + 1, by omega, by go_num, by rw [HNX.out]; go_num, HN2.out (by rfl), HB10.out⟩
                    case measure => simp [intOf]; omega
                  · have e5 : (g == []) = false := by simpa using hge
                    have e6 : decide (g = []) = false := decide_eq_false hge
                    have e7 : (g != []) = true := by simpa using hge
                    have HE6 : Hid (g.isEmpty = false) := Lib.hid (by simpa using hge)
                    have hlen : 0 < g.length := List.length_pos_iff.2 hge
                    obtain ⟨n, hn⟩ : ∃ n, g.length = n + 1 := ⟨g.length - 1, by omega⟩
                    have hltn : n < g.length := by omega
                    obtain ⟨c0, hce0, hcl0⟩ : ∃ c : Nat, ((ByteArray.mk g.toArray)[0]'(by simpa [ByteArray.size] using hlen)).toNat = c ∧ c = g[0].toNat := ⟨_, rfl, rfl⟩
                    obtain ⟨cn, hcen, hcln⟩ : ∃ c : Nat, ((ByteArray.mk g.toArray)[n]'(by simpa [ByteArray.size] using hltn)).toNat = c ∧ c = g[n].toNat := ⟨_, rfl, rfl⟩
                    have hhead : headW? g = decide (cls c0 = 1) := by
                      rw [hcl0]
                      exact head_at hlen
                    have hlast : lastW? g = decide (cls cn = 1) := by
                      rw [hcln]
                      exact last_at hn hltn
                    have HHD := Lib.hid hhead
                    have HLS := Lib.hid hlast
                    clear hcl0 hcln hge hhead hlast
                    obtain ⟨x2, hx2⟩ : ∃ b, lastW? g = b := ⟨_, rfl⟩
                    have hd2 : decide (cls cn = 1) = x2 := by rw [← hx2, HLS.out]
                    have HX2 := Lib.hid hx2
                    have HD2 := Lib.hid hd2
                    clear hx2 hd2
                    go_wp2_with fail
                    refine (ref_space _ cn).mono ?_
                    rw [HD2.out]
                    rintro e w9 ⟨rfl, rfl⟩
                    cases x2 with
                    | false =>
                      go_wp2_with fail
                      refine bodyPost_ret (v := .tuple #[.string ⟨#[]⟩, .int .i64 2]) (by simp [results, Tryd.results31, go_sem]) rfl ?_
                      have HQ := Lib.hid (HBAD.out (HF.out (by unfold gapOk; rw [HE6.out, Bool.and_false, if_neg (by simp), Bool.true_or, Bool.and_true, HX2.out, Bool.and_false])))
                      rw [HQ.out.1, HQ.out.2]
                      exact ⟨rfl, HBA.out⟩
                    | true =>
                      go_wp2_with fail
                      refine (ref_blank _ g hgl).mono ?_
                      obtain ⟨x1, hx1⟩ : ∃ b, blankP g = b := ⟨_, rfl⟩
                      rw [hx1]
                      rintro e w10 ⟨rfl, hb10⟩
                      have HB10 := Lib.hid (then_ HBI.out hb10)
                      have HA10 := Lib.hid (then_ HBA.out hb10)
                      have HX1 := Lib.hid hx1
                      have r8 := cellB q8 hb10
                      clear hb10 hx1
                      cases x1 with
                      | false =>
                        go_wp2_with fail
                        refine bodyPost_ret (v := .tuple #[.string ⟨#[]⟩, .int .i64 2]) (by simp [results, Tryd.results31, go_sem]) rfl ?_
                        have HQ := Lib.hid (HBAD.out (HF.out (by unfold gapOk; rw [HE6.out, Bool.and_false, if_neg (by simp), Bool.true_or, Bool.and_true, HX2.out, HX1.out]; rfl)))
                        rw [HQ.out.1, HQ.out.2]
                        exact ⟨rfl, HA10.out⟩
                      | true =>
                        go_wp2_with fail
                        go_roundw
                        case rel => exact ⟨k + 1, by omega, by go_num, by rw [HNX.out]; go_num, HN2.out (by unfold gapOk; rw [HE6.out, Bool.and_false, if_neg (by simp), Bool.true_or, Bool.and_true, HX2.out, HX1.out]; rfl), HB10.out⟩
                        case measure => simp [intOf]; omega
                | false =>
                  by_cases h1 : i = 0
                  · have h2 : k ≠ 0 := fun h2 => by rw [h1, h2] at hff; simp at hff
                    have e1 : ((i : Int) == 0) = true := by rw [h1]; rfl
                    have e2 : ((k : Int) == 0) = false := by rw [beq_eq_false_iff_ne]; omega
                    have e3 : (i == 0) = true := by rw [h1]; rfl
                    have e4 : (k == 0) = false := by rw [beq_eq_false_iff_ne]; omega
                    clear h1 h2 hff
                    by_cases hge : g = []
                    · subst hge
                      go_wp2_with fail
                      refine bodyPost_ret (v := .tuple #[.string ⟨#[]⟩, .int .i64 2]) (by simp [results, Tryd.results31, go_sem]) rfl ?_
                      have HQ := Lib.hid (HBAD.out (HF.out (by unfold gapOk; rw [Bool.false_and, if_neg (by simp)]; simp [lastW?])))
                      rw [HQ.out.1, HQ.out.2]
                      exact ⟨rfl, HBA.out⟩
                    · have e5 : (g == []) = false := by simpa using hge
                      have e6 : decide (g = []) = false := decide_eq_false hge
                      have e7 : (g != []) = true := by simpa using hge
                      have HE6 : Hid (g.isEmpty = false) := Lib.hid (by simpa using hge)
                      have hlen : 0 < g.length := List.length_pos_iff.2 hge
                      obtain ⟨n, hn⟩ : ∃ n, g.length = n + 1 := ⟨g.length - 1, by omega⟩
                      have hltn : n < g.length := by omega
                      obtain ⟨c0, hce0, hcl0⟩ : ∃ c : Nat, ((ByteArray.mk g.toArray)[0]'(by simpa [ByteArray.size] using hlen)).toNat = c ∧ c = g[0].toNat := ⟨_, rfl, rfl⟩
                      obtain ⟨cn, hcen, hcln⟩ : ∃ c : Nat, ((ByteArray.mk g.toArray)[n]'(by simpa [ByteArray.size] using hltn)).toNat = c ∧ c = g[n].toNat := ⟨_, rfl, rfl⟩
                      have hhead : headW? g = decide (cls c0 = 1) := by
                        rw [hcl0]
                        exact head_at hlen
                      have hlast : lastW? g = decide (cls cn = 1) := by
                        rw [hcln]
                        exact last_at hn hltn
                      have HHD := Lib.hid hhead
                      have HLS := Lib.hid hlast
                      clear hcl0 hcln hge hhead hlast
                      obtain ⟨x3, hx3⟩ : ∃ b, headW? g = b := ⟨_, rfl⟩
                      have hd3 : decide (cls c0 = 1) = x3 := by rw [← hx3, HHD.out]
                      have HX3 := Lib.hid hx3
                      have HD3 := Lib.hid hd3
                      clear hx3 hd3
                      go_wp2_with fail
                      refine (ref_space _ c0).mono ?_
                      rw [HD3.out]
                      rintro e w8 ⟨rfl, rfl⟩
                      cases x3 with
                      | false =>
                        go_wp2_with fail
                        refine bodyPost_ret (v := .tuple #[.string ⟨#[]⟩, .int .i64 2]) (by simp [results, Tryd.results31, go_sem]) rfl ?_
                        have HQ := Lib.hid (HBAD.out (HF.out (by unfold gapOk; rw [Bool.false_and, if_neg (by simp), Bool.false_or, HX3.out, Bool.and_false])))
                        rw [HQ.out.1, HQ.out.2]
                        exact ⟨rfl, HBA.out⟩
                      | true =>
                        obtain ⟨x2, hx2⟩ : ∃ b, lastW? g = b := ⟨_, rfl⟩
                        have hd2 : decide (cls cn = 1) = x2 := by rw [← hx2, HLS.out]
                        have HX2 := Lib.hid hx2
                        have HD2 := Lib.hid hd2
                        clear hx2 hd2
                        go_wp2_with fail
                        refine (ref_space _ cn).mono ?_
                        rw [HD2.out]
                        rintro e w9 ⟨rfl, rfl⟩
                        cases x2 with
                        | false =>
                          go_wp2_with fail
                          refine bodyPost_ret (v := .tuple #[.string ⟨#[]⟩, .int .i64 2]) (by simp [results, Tryd.results31, go_sem]) rfl ?_
                          have HQ := Lib.hid (HBAD.out (HF.out (by unfold gapOk; rw [Bool.false_and, if_neg (by simp), Bool.false_or, HX3.out, Bool.and_true, HX2.out, Bool.and_false])))
                          rw [HQ.out.1, HQ.out.2]
                          exact ⟨rfl, HBA.out⟩
                        | true =>
                          go_wp2_with fail
                          refine (ref_blank _ g hgl).mono ?_
                          obtain ⟨x1, hx1⟩ : ∃ b, blankP g = b := ⟨_, rfl⟩
                          rw [hx1]
                          rintro e w10 ⟨rfl, hb10⟩
                          have HB10 := Lib.hid (then_ HBI.out hb10)
                          have HA10 := Lib.hid (then_ HBA.out hb10)
                          have HX1 := Lib.hid hx1
                          have r8 := cellB q8 hb10
                          clear hb10 hx1
                          cases x1 with
                          | false =>
                            go_wp2_with fail
                            refine bodyPost_ret (v := .tuple #[.string ⟨#[]⟩, .int .i64 2]) (by simp [results, Tryd.results31, go_sem]) rfl ?_
                            have HQ := Lib.hid (HBAD.out (HF.out (by unfold gapOk; rw [Bool.false_and, if_neg (by simp), Bool.false_or, HX3.out, Bool.and_true, HX2.out, HX1.out]; rfl)))
                            rw [HQ.out.1, HQ.out.2]
                            exact ⟨rfl, HA10.out⟩
                          | true =>
                            go_wp2_with fail
                            go_roundw
                            case rel => exact ⟨k + 1, by omega, by go_num, by rw [HNX.out]; go_num, HN2.out (by unfold gapOk; rw [Bool.false_and, if_neg (by simp), Bool.false_or, HX3.out, Bool.and_true, HX2.out, HX1.out]; rfl), HB10.out⟩
                            case measure => simp [intOf]; omega
                  · have e1 : ((i : Int) == 0) = false := by rw [beq_eq_false_iff_ne]; omega
                    have e3 : (i == 0) = false := by rw [beq_eq_false_iff_ne]; omega
                    clear h1 hff
                    by_cases hge : g = []
                    · subst hge
                      go_wp2_with fail
                      refine bodyPost_ret (v := .tuple #[.string ⟨#[]⟩, .int .i64 2]) (by simp [results, Tryd.results31, go_sem]) rfl ?_
                      have HQ := Lib.hid (HBAD.out (HF.out (by unfold gapOk; rw [Bool.false_and, if_neg (by simp)]; simp [lastW?])))
                      rw [HQ.out.1, HQ.out.2]
                      exact ⟨rfl, HBA.out⟩
                    · have e5 : (g == []) = false := by simpa using hge
                      have e6 : decide (g = []) = false := decide_eq_false hge
                      have e7 : (g != []) = true := by simpa using hge
                      have HE6 : Hid (g.isEmpty = false) := Lib.hid (by simpa using hge)
                      have hlen : 0 < g.length := List.length_pos_iff.2 hge
                      obtain ⟨n, hn⟩ : ∃ n, g.length = n + 1 := ⟨g.length - 1, by omega⟩
                      have hltn : n < g.length := by omega
                      obtain ⟨c0, hce0, hcl0⟩ : ∃ c : Nat, ((ByteArray.mk g.toArray)[0]'(by simpa [ByteArray.size] using hlen)).toNat = c ∧ c = g[0].toNat := ⟨_, rfl, rfl⟩
                      obtain ⟨cn, hcen, hcln⟩ : ∃ c : Nat, ((ByteArray.mk g.toArray)[n]'(by simpa [ByteArray.size] using hltn)).toNat = c ∧ c = g[n].toNat := ⟨_, rfl, rfl⟩
                      have hhead : headW? g = decide (cls c0 = 1) := by
                        rw [hcl0]
                        exact head_at hlen
                      have hlast : lastW? g = decide (cls cn = 1) := by
                        rw [hcln]
                        exact last_at hn hltn
                      have HHD := Lib.hid hhead
                      have HLS := Lib.hid hlast
                      clear hcl0 hcln hge hhead hlast
                      obtain ⟨x3, hx3⟩ : ∃ b, headW? g = b := ⟨_, rfl⟩
                      have hd3 : decide (cls c0 = 1) = x3 := by rw [← hx3, HHD.out]
                      have HX3 := Lib.hid hx3
                      have HD3 := Lib.hid hd3
                      clear hx3 hd3
                      go_wp2_with fail
                      refine (ref_space _ c0).mono ?_
                      rw [HD3.out]
                      rintro e w8 ⟨rfl, rfl⟩
                      cases x3 with
                      | false =>
                        go_wp2_with fail
                        refine bodyPost_ret (v := .tuple #[.string ⟨#[]⟩, .int .i64 2]) (by simp [results, Tryd.results31, go_sem]) rfl ?_
                        have HQ := Lib.hid (HBAD.out (HF.out (by unfold gapOk; rw [Bool.false_and, if_neg (by simp), Bool.false_or, HX3.out, Bool.and_false])))
                        rw [HQ.out.1, HQ.out.2]
                        exact ⟨rfl, HBA.out⟩
                      | true =>
                        obtain ⟨x2, hx2⟩ : ∃ b, lastW? g = b := ⟨_, rfl⟩
                        have hd2 : decide (cls cn = 1) = x2 := by rw [← hx2, HLS.out]
                        have HX2 := Lib.hid hx2
                        have HD2 := Lib.hid hd2
                        clear hx2 hd2
                        go_wp2_with fail
                        refine (ref_space _ cn).mono ?_
                        rw [HD2.out]
                        rintro e w9 ⟨rfl, rfl⟩
                        cases x2 with
                        | false =>
                          go_wp2_with fail
                          refine bodyPost_ret (v := .tuple #[.string ⟨#[]⟩, .int .i64 2]) (by simp [results, Tryd.results31, go_sem]) rfl ?_
                          have HQ := Lib.hid (HBAD.out (HF.out (by unfold gapOk; rw [Bool.false_and, if_neg (by simp), Bool.false_or, HX3.out, Bool.and_true, HX2.out, Bool.and_false])))
                          rw [HQ.out.1, HQ.out.2]
                          exact ⟨rfl, HBA.out⟩
                        | true =>
                          go_wp2_with fail
                          refine (ref_blank _ g hgl).mono ?_
                          obtain ⟨x1, hx1⟩ : ∃ b, blankP g = b := ⟨_, rfl⟩
                          rw [hx1]
                          rintro e w10 ⟨rfl, hb10⟩
                          have HB10 := Lib.hid (then_ HBI.out hb10)
                          have HA10 := Lib.hid (then_ HBA.out hb10)
                          have HX1 := Lib.hid hx1
                          have r8 := cellB q8 hb10
                          clear hb10 hx1
                          cases x1 with
                          | false =>
                            go_wp2_with fail
                            refine bodyPost_ret (v := .tuple #[.string ⟨#[]⟩, .int .i64 2]) (by simp [results, Tryd.results31, go_sem]) rfl ?_
                            have HQ := Lib.hid (HBAD.out (HF.out (by unfold gapOk; rw [Bool.false_and, if_neg (by simp), Bool.false_or, HX3.out, Bool.and_true, HX2.out, HX1.out]; rfl)))
                            rw [HQ.out.1, HQ.out.2]
                            exact ⟨rfl, HA10.out⟩
                          | true =>
                            go_wp2_with fail
                            go_roundw
                            case rel => exact ⟨k + 1, by omega, by go_num, by rw [HNX.out]; go_num, HN2.out (by unfold gapOk; rw [Bool.false_and, if_neg (by simp), Bool.false_or, HX3.out, Bool.and_true, HX2.out, HX1.out]; rfl), HB10.out⟩
                            case measure => simp [intOf]; omega
              · obtain rfl : k = (wordsS y.1).length := by omega
                have hfl : outS (d.take i) ++ ((y.2.zip (wordsS y.1)).take (wordsS y.1).length).flatMap (fun p => p.1 ++ p.2) = outS (d.take (i + 1)) := by
                  rw [List.take_of_length_le (l := y.2.zip (wordsS y.1)) (by rw [List.length_zip]; exact Nat.min_le_right _ _), take_snoc HY.out]
                  unfold outS
                  rw [List.flatMap_append]
                  simp [outP]
                rw [hfl] at hsv
                subst hsv
                have hr3 : rightP true d = rightP (decide (i + 1 = 0)) (d.drop (i + 1)) := by
                  rw [HR2.out, hr, ← HYL.out, List.drop_length]
                  simp [rightG]
                have HR3 := Lib.hid hr3
                have HBX := Lib.hid (then_ (then_ HBI0.out HI7.out) hBI)
                clear hr hr3 hfl hBI
                go_wp2_with fail
                go_roundw
                case rel => exact ⟨i + 1, by omega, by go_num, rfl, HR3.out, HBX.out⟩
                case measure => simp [intOf]; omega
          · obtain rfl : i = d.length := by omega
            rw [List.take_length]
            rw [List.drop_length] at hr
            have hrp : rightP true d = true := by rw [hr]; rfl
            have HRP := Lib.hid hrp
            have htl := HS.out.tail
            clear hr hrp
            go_upto_region 22 with fail
            go_cut [151] (fun c wx => c = .bool (!(blankP tl && (d.isEmpty || tl.isEmpty || headW? tl))) ∧ Row wx w.heap.size 45 #[.slice A1 d.length c1, .string ⟨tl.toArray⟩] ∧ Below w.heap.size w wx)
            case first =>
              go_wp2_with fail
              refine (ref_blank _ tl htl).mono ?_
              obtain ⟨x1, hx1⟩ : ∃ b, blankP tl = b := ⟨_, rfl⟩
              rw [hx1]
              rintro e w5 ⟨rfl, hb5⟩
              have HX1 := Lib.hid hx1
              clear hx1
              have HB5 := Lib.hid (then_ HB.out hb5)
              have HR6 := Lib.hid (HRO.out.below hb5 HRO.out.lt)
              have p2 := HR6.out.cell (i := 0) (v := .slice A1 d.length c1) rfl
              have p3 := HR6.out.cell (i := 1) (v := .string ⟨tl.toArray⟩) rfl
              clear hb5 p0 p1
              cases x1 with
              | false =>
                go_wp2_with fail
                go_meet
                exact ⟨by rw [HX1.out]; rfl, HR6.out, HB5.out⟩
              | true =>
                by_cases hd0 : d.length = 0
                · have e1 : decide ((0 : Int) < (d.length : Int)) = false := decide_eq_false (by omega)
                  have e2 : decide (0 < d.length) = false := decide_eq_false (by omega)
                  have HD : Hid (d.isEmpty = true) := Lib.hid (by simpa using List.eq_nil_of_length_eq_zero hd0)
                  clear hd0
                  go_wp2_with fail
                  go_meet
                  exact ⟨by rw [HX1.out, HD.out]; rfl, HR6.out, HB5.out⟩
                · have e1 : decide ((0 : Int) < (d.length : Int)) = true := decide_eq_true (by omega)
                  have e2 : decide (0 < d.length) = true := decide_eq_true (by omega)
                  have HD : Hid (d.isEmpty = false) := Lib.hid (by cases d with | nil => exact absurd rfl hd0 | cons a r => rfl)
                  clear hd0
                  by_cases hge : tl = []
                  · have e5 : (tl == []) = true := by simpa using hge
                    have e6 : decide (tl = []) = true := decide_eq_true hge
                    have e7 : (tl != []) = false := by simpa using hge
                    have HE6 : Hid (tl.isEmpty = true) := Lib.hid (by simpa using hge)
                    clear hge
                    go_wp2_with fail
                    go_meet
                    exact ⟨by rw [HX1.out, HD.out, HE6.out]; rfl, HR6.out, HB5.out⟩
                  · have e5 : (tl == []) = false := by simpa using hge
                    have e6 : decide (tl = []) = false := decide_eq_false hge
                    have e7 : (tl != []) = true := by simpa using hge
                    have HE6 : Hid (tl.isEmpty = false) := Lib.hid (by simpa using hge)
                    have hlen : 0 < tl.length := List.length_pos_iff.2 hge
                    obtain ⟨c0, hce0, hcl0⟩ : ∃ c : Nat, ((ByteArray.mk tl.toArray)[0]'(by simpa [ByteArray.size] using hlen)).toNat = c ∧ c = tl[0].toNat := ⟨_, rfl, rfl⟩
                    have hhead : headW? tl = decide (cls c0 = 1) := by
                      rw [hcl0]
                      exact head_at hlen
                    have HHD := Lib.hid hhead
                    clear hcl0 hge hhead
                    go_wp2_with fail
                    refine (ref_space _ c0).mono ?_
                    rintro e w8 ⟨rfl, rfl⟩
                    go_wp2_with fail
                    go_meet
                    exact ⟨by rw [HX1.out, HD.out, HE6.out, HHD.out]; rfl, HR6.out, HB5.out⟩
            case rest =>
              obtain ⟨rfl, hr6, hb6⟩ := hcut
              have hdr : docRight d tl = (blankP tl && (d.isEmpty || tl.isEmpty || headW? tl)) := docRight_ref HRP.out
              rw [← hdr]
              obtain ⟨bt, hbt⟩ : ∃ b, docRight d tl = b := ⟨_, rfl⟩
              rw [hbt]
              have HBT := Lib.hid hbt
              have HR6 := Lib.hid hr6
              have HB6 := Lib.hid hb6
              clear hdr hbt hr6 hb6
              cases bt with
              | false =>
                go_wp2_with fail
                refine bodyPost_ret (v := .tuple #[.string ⟨#[]⟩, .int .i64 2]) (by simp [results, Tryd.results31, go_sem]) rfl ?_
                have HQ := Lib.hid (HBAD.out HBT.out)
                rw [HQ.out.1, HQ.out.2]
                exact ⟨rfl, HB6.out⟩
              | true =>
                rw [Bool.not_true]
                obtain ⟨S, hS⟩ : ∃ S, outS d ++ tl = S := ⟨_, rfl⟩
                have HQ : Hid ((if 40000 < S.length then (([], 15) : List UInt8 × Int) else if 8000 < (toks 0 S).length then ([], 8) else (S, 0)) = (r1, r2)) := Lib.hid (by
                  have h1 := HR.out
                  unfold writeS at h1
                  rw [HW.out] at h1
                  dsimp only at h1
                  rw [if_neg (by simp), if_neg (by rw [HLEN.out]; simp), if_neg (by rw [HBT.out]; simp), hS] at h1
                  exact h1)
                have hsz := HS.out.all
                rw [hS] at hsz
                have hSl : tl.length + (outS d).length = S.length := by rw [← hS, List.length_append]; omega
                rw [hSl]
                have HASC : Hid (∀ b ∈ S, byteB b = true) := Lib.hid fun b hb => out_byte (fun x hx => HALL.out x.1 (List.mem_map_of_mem hx)) HBT.out b (hS ▸ hb)
                have HSS := Lib.hid hS
                obtain ⟨w6, hw6⟩ : ∃ w6, w6 = wc := ⟨_, rfl⟩
                subst hw6
                have p0 := HR6.out.cell (i := 0) (v := .slice A1 d.length c1) rfl
                have p1 := HR6.out.cell (i := 1) (v := .string ⟨tl.toArray⟩) rfl
                clear hS hSl
                by_cases hlarge : 40000 < S.length
                · have e1 : decide ((40000 : Int) < (S.length : Int)) = true := decide_eq_true (by omega)
                  have e2 : decide (40000 < S.length) = true := decide_eq_true hlarge
                  have HQ2 : Hid (r1 = [] ∧ r2 = 15) := Lib.hid (by
                    have h1 := HQ.out
                    rw [if_pos hlarge] at h1
                    cases h1
                    exact ⟨rfl, rfl⟩)
                  go_wp2_with fail
                  refine bodyPost_ret (v := .tuple #[.string ⟨#[]⟩, .int .i64 15]) (by simp [results, Tryd.results31, go_sem]) rfl ?_
                  rw [HQ2.out.1, HQ2.out.2]
                  exact ⟨rfl, HB6.out⟩
                · have e1 : decide ((40000 : Int) < (S.length : Int)) = false := decide_eq_false (by omega)
                  have e2 : decide (40000 < S.length) = false := decide_eq_false hlarge
                  have HL4 := Lib.hid hlarge
                  have HQ2 := HQ.out
                  rw [if_neg hlarge] at HQ2
                  replace HQ2 := Lib.hid HQ2
                  have HSZ := Lib.hid hsz
                  clear hlarge hsz
                  go_wp2_with fail
                  clear e1 e2
                  go_loopw [13, 14] (fun sv iv wr => ∃ i : Nat, i ≤ d.length ∧ iv = .int .i64 i ∧ sv = .string ⟨(outS (d.take i)).toArray⟩ ∧ Below w6.heap.size w6 wr) (fun _ iv _ => d.length - (intOf iv).toNat)
                  case atStart => exact ⟨0, Nat.zero_le _, rfl, rfl, Below.refl _ _⟩
                  case round =>
                    obtain ⟨wo, rfl⟩ : ∃ wo, wo = wr := ⟨_, rfl⟩
                    obtain ⟨i, hi, rfl, rfl, hB⟩ := hrel
                    have HB := Lib.hid (then_ HB6.out hB)
                    have HBI0 := Lib.hid hB
                    have HRO := Lib.hid (HR6.out.below hB HR6.out.lt)
                    replace p0 := HRO.out.cell (i := 0) (v := .slice A1 d.length c1) rfl
                    replace p1 := HRO.out.cell (i := 1) (v := .string ⟨tl.toArray⟩) rfl
                    clear hB
                    by_cases hlt : i < d.length
                    · obtain ⟨y, hy⟩ : ∃ y, d[i]? = some y := ⟨_, List.getElem?_eq_getElem hlt⟩
                      obtain ⟨A', c', hv, _, _, hxx⟩ := (H.out.below HB.out).open_
                      obtain ⟨b, o, tv, pv, gv, hA, g0, g1, g2, g3, g4, hT, hP, hG⟩ := hxx i y hy
                      obtain ⟨rfl, _, rfl⟩ := (by simpa using hv : A1 = A' ∧ True ∧ c1 = c')
                      subst hA
                      obtain ⟨T1, d1, rfl, -⟩ := hT.open_
                      obtain ⟨P1, e1, rfl, -⟩ := hP.open_
                      obtain ⟨G1, f1, rfl, hcg, hmg, -⟩ := hG.open_
                      unfold maxLen at hmg
                      have hmem := List.mem_of_getElem? hy
                      have HK := Lib.hid (formed_kind (HALL.out y.1 (List.mem_map_of_mem hmem)))
                      have HK0 := Lib.hid (formed_none (HALL.out y.1 (List.mem_map_of_mem hmem)))
                      have HN := Lib.hid (HS.out.doc.2 y hmem)
                      have HT := Lib.hid hT
                      have HP := Lib.hid hP
                      have HG := Lib.hid hG
                      have HY := Lib.hid hy
                      have HYL : Hid (y.2.length = (wordsS y.1).length) := Lib.hid (by
                        have h1 := List.all_eq_true.1 HLEN.out y hmem
                        simpa using h1)
                      have HGZ := Lib.hid (HS.out.gaps y hmem)
                      have HWZ := Lib.hid (HS.out.words y hmem)
                      clear hxx hv hT hP hG hmem hy
                      go_wp2_with fail
                      refine (ref_words _ y.1 _ _ HT.out HP.out HK.out HK0.out HN.out.1 HN.out.2).mono ?_
                      rintro e w7 ⟨v7, rfl, hv7, hb7⟩
                      obtain ⟨A7, c7, rfl, hc7, hm7, -⟩ := hv7.open_
                      unfold maxLen at hm7
                      have HV7 := Lib.hid hv7
                      have HB7 := Lib.hid (then_ HB.out hb7)
                      have HI7 := Lib.hid hb7
                      clear hv7 hb7 p0 p1
                      go_wp2_with fail
                      go_loopw [13, 16] (fun sv kv wq => ∃ k : Nat, k ≤ (wordsS y.1).length ∧ kv = .int .i64 k ∧ sv = .string ⟨(outS (d.take i) ++ ((y.2.zip (wordsS y.1)).take k).flatMap fun p => p.1 ++ p.2).toArray⟩ ∧ Below w7.heap.size w7 wq) (fun _ kv _ => (wordsS y.1).length - (intOf kv).toNat)
                      case atStart => exact ⟨0, Nat.zero_le _, rfl, by simp, Below.refl _ _⟩
                      case round =>
                        obtain ⟨k, hk, rfl, hsv, hBI⟩ := hrel
                        by_cases hlk : k < (wordsS y.1).length
                        · obtain ⟨u, hu⟩ : ∃ u, (wordsS y.1)[k]? = some u := ⟨_, List.getElem?_eq_getElem hlk⟩
                          obtain ⟨g, hg⟩ : ∃ g, y.2[k]? = some g := ⟨_, List.getElem?_eq_getElem (by have := HYL.out; omega)⟩
                          have hky : k < y.2.length := by have := HYL.out; omega
                          have hgl := HGZ.out g (List.mem_of_getElem? hg)
                          have hul := HWZ.out u (List.mem_of_getElem? hu)
                          obtain ⟨A8, c8, hv8, hc8, hm8, hx8⟩ := Strs.open_ (Strs.below HV7.out hBI)
                          obtain ⟨b8, o8, hA8, q8⟩ := hx8 k u hu
                          obtain ⟨rfl, _, rfl⟩ := (by simpa using hv8 : A7 = A8 ∧ True ∧ c7 = c8)
                          subst hA8
                          obtain ⟨A9, c9, hv9, hc9, hm9, hx9⟩ := Strs.open_ (Strs.below HG.out (then_ HI7.out hBI))
                          obtain ⟨b9, o9, hA9, q9⟩ := hx9 k g hg
                          obtain ⟨rfl, _, rfl⟩ := (by simpa using hv9 : G1 = A9 ∧ True ∧ f1 = c9)
                          subst hA9
                          have k4 := cellB g4 (then_ HI7.out hBI)
                          have p0 := (HRO.out.below (then_ HI7.out hBI) HRO.out.lt).cell (i := 0) (v := .slice (some ⟨b, o, none⟩) d.length c1) rfl
                          obtain ⟨M, hM⟩ : ∃ M, outS (d.take i) ++ ((y.2.zip (wordsS y.1)).take k).flatMap (fun p => p.1 ++ p.2) = M := ⟨_, rfl⟩
                          have hnext : outS (d.take i) ++ ((y.2.zip (wordsS y.1)).take (k + 1)).flatMap (fun p => p.1 ++ p.2) = M ++ (g ++ u) := by
                            rw [← hM, take_snoc (show (y.2.zip (wordsS y.1))[k]? = some (g, u) by rw [List.getElem?_zip_eq_some]; exact ⟨hg, hu⟩), List.flatMap_append]
                            simp
                          have hMl : M.length ≤ 1000000 := by
                            have h1 := HS.out.all
                            rw [List.length_append, out_split HY.out k, hM] at h1
                            omega
                          have HNX := Lib.hid hnext
                          rw [hM] at hsv
                          subst hsv
                          have HBI := Lib.hid hBI
                          have hca1 := cat_run (rfl : g ++ u = g ++ u) (by omega)
                          obtain ⟨gu, hgu⟩ : ∃ gu, g ++ u = gu := ⟨_, rfl⟩
                          have hgul : gu.length ≤ 1008000 := by rw [← hgu, List.length_append]; omega
                          rw [hgu] at hca1 HNX
                          obtain ⟨mg, hmg2⟩ : ∃ mg, M ++ gu = mg := ⟨_, rfl⟩
                          have hca2 := cat_run hmg2 (by omega)
                          rw [hmg2] at HNX
                          clear hv8 hx8 hv9 hx9 hu hg hBI hM hnext g0 g1 g2 g3 g4 hgu hmg2
                          go_wp2_with fail
                          go_quiet (fail)
                          all_goals go_wp2_with fail
                          all_goals go_roundw
                          case rel => exact ⟨k + 1, by omega, by go_num, by rw [HNX.out], by first | exact HBI.out | exact below_drewN HBI.out _⟩
                          case measure => simp [intOf]; omega
                        · obtain rfl : k = (wordsS y.1).length := by omega
                          have hfl : outS (d.take i) ++ ((y.2.zip (wordsS y.1)).take (wordsS y.1).length).flatMap (fun p => p.1 ++ p.2) = outS (d.take (i + 1)) := by
                            rw [List.take_of_length_le (l := y.2.zip (wordsS y.1)) (by rw [List.length_zip]; exact Nat.min_le_right _ _), take_snoc HY.out]
                            unfold outS
                            rw [List.flatMap_append]
                            simp [outP]
                          obtain ⟨Z, hZ⟩ : ∃ Z, outS (d.take (i + 1)) = Z := ⟨_, rfl⟩
                          rw [hfl, hZ] at hsv
                          subst hsv
                          have HZ := Lib.hid hZ
                          have HBX := Lib.hid (then_ (then_ HBI0.out HI7.out) hBI)
                          clear hfl hZ hBI
                          go_wp2_with fail
                          go_roundw
                          case rel => exact ⟨i + 1, by omega, by go_num, by rw [HZ.out], HBX.out⟩
                          case measure => simp [intOf]; omega
                    · obtain rfl : i = d.length := by omega
                      rw [List.take_length]
                      have HST : Hid ((scanS S).2.2 = if 8000 < (toks 0 S).length then 8 else 0) := Lib.hid (scan_out HL4.out HASC.out)
                      obtain ⟨z3, hz3⟩ : ∃ z3, (scanS S).2.2 = z3 := ⟨_, rfl⟩
                      have hsl : (outS d).length + tl.length ≤ 1000000000 := by rw [← List.length_append, HSS.out]; have := HSZ.out; omega
                      have hcat := cat_run HSS.out hsl
                      clear hsl
                      go_wp2_with fail
                      refine (ref_scan _ S).mono ?_
                      rw [hz3]
                      rintro e w9 ⟨v9, rfl, hv9, hb9⟩
                      obtain ⟨A9, c9, rfl, -⟩ := hv9.open_
                      have HB9 := Lib.hid (then_ HB.out hb9)
                      have HZ3 := Lib.hid hz3
                      clear hv9 hb9 hz3 hcat
                      by_cases h8 : 8000 < (toks 0 S).length
                      · have HQ3 : Hid (r1 = [] ∧ r2 = 8) := Lib.hid (by
                          have h1 := HQ2.out
                          rw [if_pos h8] at h1
                          cases h1
                          exact ⟨rfl, rfl⟩)
                        have e3 : z3 = 8 := by rw [← HZ3.out, HST.out, if_pos h8]
                        subst e3
                        clear h8
                        go_wp2_with fail
                        refine bodyPost_ret (v := .tuple #[.string ⟨#[]⟩, .int .i64 8]) (by simp [results, Tryd.results31, go_sem]) rfl ?_
                        rw [HQ3.out.1, HQ3.out.2]
                        exact ⟨rfl, HB9.out⟩
                      · have HQ3 : Hid (r1 = S ∧ r2 = 0) := Lib.hid (by
                          have h1 := HQ2.out
                          rw [if_neg h8] at h1
                          cases h1
                          exact ⟨rfl, rfl⟩)
                        have e3 : z3 = 0 := by rw [← HZ3.out, HST.out, if_neg h8]
                        subst e3
                        clear h8
                        go_wp2_with fail
                        refine bodyPost_ret (v := .tuple #[.string ⟨S.toArray⟩, .int .i64 0]) (by simp [results, Tryd.results31, go_sem]) rfl ?_
                        rw [HQ3.out.1, HQ3.out.2]
                        exact ⟨rfl, HB9.out⟩
  · have e1 : (z != 0) = true := by simpa using hz
    have HZ := Lib.hid hz
    clear hz
    go_wp2_with fail
    have HQ : Hid (r1 = [] ∧ r2 = z) := Lib.hid (by
            have h1 := HR.out
            unfold writeS at h1
            rw [HW.out] at h1
            dsimp only at h1
            rw [if_pos HZ.out] at h1
            cases h1
            exact ⟨rfl, rfl⟩)
    refine bodyPost_ret (v := .tuple #[.string ⟨#[]⟩, .int .i64 z]) (by simp [results, Tryd.results31, go_sem]) rfl ?_
    rw [HQ.out.1, HQ.out.2]
    exact ⟨rfl, HB3.out⟩
end Go.Proofs.YtpmbfcogkoiogaaDoor
end
