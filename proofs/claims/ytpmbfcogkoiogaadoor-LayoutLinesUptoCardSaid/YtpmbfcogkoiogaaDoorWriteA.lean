/- A strings.Builder: what it leaves as it was. Layout: Write of the program. -/
import Derived.Test.YtpmbfcogkoiogaaDoorBldA
import Derived.Test.YtpmbfcogkoiogaaDoorLayLA
import Derived.Test.YtpmbfcogkoiogaaDoorWordsPA
import Derived.Test.YtpmbfcogkoiogaaDoorDocLA
import Derived.Test.YtpmbfcogkoiogaaDoorLayAllA
import Derived.Deep.RegionHeld3
import Derived.Deep.DrawnRows
section
namespace Go.Proofs.YtpmbfcogkoiogaaDoor
open Go.RowKit
def BldF (w : World) (b : Nat) (l : List UInt8) : Prop := Lib.IsBuilderF 97 5 b b (Lib.byteCells l) w
section
variable {w w' : World} {b : Nat} {l : List UInt8}
theorem BldF.of (h : Bld w b b l) : BldF w b l := Lib.IsBuilderF.of h
theorem BldF.new (w : World) : BldF (w.alloc (.cells #[.pointer none, .slice none 0 0] 97)) w.heap.size [] := .of (Bld.new w (Nat.le_refl _))
theorem ownF_below {base : Nat} {e : TypeId} {size n : Nat} {v : Value} {xs : List Value} (h : w.ownsRowF base e size v n xs) (hb : Below w.heap.size w w') : w'.ownsRowF base e size v n xs := by
  refine ⟨h.1, h.2.imp id fun ⟨g, cap, cur, fz, e1, hg, hh, r⟩ => ⟨g, cap, cur, fz, e1, hg, ?_, r⟩⟩
  exact (hb.block g (Array.getElem?_eq_some_iff.1 hh).1).trans hh
theorem builderAtF_below {T e : TypeId} {B : Nat} {p : Value} {bs : List Value} (h : Lib.BuilderAtF T e B b p bs w) (hb : Below w.heap.size w w') : Lib.BuilderAtF T e B b p bs w' := by
  obtain ⟨hB, v, h1, h2, h3⟩ := h
  exact ⟨hB, v, (hb.block b (Array.getElem?_eq_some_iff.1 h1).1).trans h1, ownF_below h2 hb, h3⟩
theorem BldF.below (h : BldF w b l) (hb : Below w.heap.size w w') : BldF w' b l := h.elim (fun h => .inl (builderAtF_below h hb)) (fun h => .inr (builderAtF_below h hb))
theorem BldF.block (h : BldF w b l) : ∃ cs, Row w b 97 cs := by
  rcases h with ⟨_, v, h, _⟩ | ⟨_, v, h, _⟩
  · exact ⟨_, h⟩
  · exact ⟨_, h⟩
theorem BldF.lt (h : BldF w b l) : b < w.heap.size := by
  obtain ⟨cs, h⟩ := h.block
  exact h.lt
/-- what a write into the builder leaves -/
structure Wrote (w w' : World) (b : Nat) : Prop where
  below : Below b w w'
  kept : Lib.OthersKept 5 (some b) w w'
theorem bldf_str (w : World) (b : Nat) (l s : List UInt8) (h : BldF w b l) (hl : l.length ≤ 1000000000) (hs : s.length ≤ 1000000000) :
    Calls Tryd.prog 60 #[.pointer (some ⟨b, 0, none⟩), .string ⟨s.toArray⟩] w fun e w' => (∃ v, e = .returned v) ∧ BldF w' b (l ++ s) ∧ Wrote w w' b := by
  refine (Tryd.Builder_WriteString_k b b _ ⟨s.toArray⟩ w h (by rw [Lib.byteCells_length]; simp [ByteArray.size]; omega) (Nat.le_of_lt h.lt)).mono ?_
  rintro e w' ⟨he, hb, hB', hk⟩
  exact ⟨⟨_, he⟩, .inr (by rw [Lib.byteCells_append]; exact hb), hB', hk⟩
theorem bldf_string (w : World) (b : Nat) (l : List UInt8) (h : BldF w b l) :
    Calls Tryd.prog 61 #[.pointer (some ⟨b, 0, none⟩)] w fun e w' => e = .returned (.string ⟨l.toArray⟩) ∧ Wrote w w' b := by
  refine (Tryd.Builder_String_any_k b b l w h (Nat.le_of_lt h.lt)).mono ?_
  rintro e w' ⟨he, _, hb, hk⟩
  exact ⟨he, hb, hk⟩
theorem Row.wrote {g : Nat} {t : TypeId} {cs : Array Value} (h : Row w g t cs) (hk : Wrote w w' b) (ht : t ≠ 5) (hg : g ≠ b) : Row w' g t cs :=
  hk.kept g _ h (by simpa using hg) (fun _ _ e => by cases e; exact ht rfl)
theorem own_wrote {base : Nat} {e : TypeId} {size n : Nat} {v : Value} {xs : List Value} (h : w.ownsRow base e size v n xs) (hk : Wrote w w' b) (hb : BldF w b l) (ht : e ≠ 5) (hT : e ≠ 97) : w'.ownsRow base e size v n xs := by
  obtain ⟨cs, hr⟩ := hb.block
  exact own_others h hk.kept ht hr hT
end
end Go.Proofs.YtpmbfcogkoiogaaDoor
end
section
namespace Go.Proofs.YtpmbfcogkoiogaaDoor
open Go.RowKit
attribute [local go_sem ↓] Go.wp_at_zero Go.wp_at_succ
/-- the sizes that Write is walked at -/
structure WrSz (d : List PartD) (tl : List UInt8) : Prop where
  doc : DocSz d
  proof : ∀ x ∈ d, x.1.proof.length ≤ 10000
  gaps : GapSz d
  tail : tl.length ≤ 40000
  all : (outS d ++ tl).length ≤ 1000000
  words : ∀ x ∈ d, ∀ u ∈ wordsS x.1, u.length ≤ 1000000
theorem allW_fine {l : List StmD} (h : (allW l).2 = 0) : ∀ x ∈ l, formedS x = true := by
  unfold allW at h
  split at h
  · cases h
  · split at h
    · rename_i h2
      exact List.all_eq_true.1 h2
    · cases h
theorem out_split {d : List PartD} {i : Nat} {y : PartD} (hy : d[i]? = some y) (j : Nat) : (outS d).length = (outS (d.take i) ++ ((y.2.zip (wordsS y.1)).take j).flatMap (fun p => p.1 ++ p.2)).length + ((((y.2.zip (wordsS y.1)).drop j).flatMap (fun p => p.1 ++ p.2)).length + (outS (d.drop (i + 1))).length) := by
  have hlt := (List.getElem?_eq_some_iff.1 hy).1
  have hd : d.drop i = y :: d.drop (i + 1) := by
    rw [List.drop_eq_getElem_cons hlt]
    congr 1
    exact (List.getElem?_eq_some_iff.1 hy).2
  conv => lhs; rw [← List.take_append_drop i d, hd]
  have h2 : outP y = ((y.2.zip (wordsS y.1)).take j).flatMap (fun p => p.1 ++ p.2) ++ ((y.2.zip (wordsS y.1)).drop j).flatMap (fun p => p.1 ++ p.2) := by
    rw [← List.flatMap_append, List.take_append_drop]
    rfl
  unfold outS at *
  rw [List.flatMap_append, List.flatMap_cons, h2]
  simp only [List.length_append]
  omega
set_option maxRecDepth 100000 in
set_option maxHeartbeats 8000000 in
theorem write_doc (w : World) (v : Value) (tl : List UInt8) (d : List PartD) (h : Parts w v d) (hM : MaxAt w) (hF : FormsAt w) (hs : WrSz d tl) :
    Calls Tryd.prog 30 #[.agg #[v, .string ⟨tl.toArray⟩]] w fun e w' => e = .returned (.tuple #[.string ⟨(writeS d tl).1.toArray⟩, .int .i64 (writeS d tl).2]) ∧ Below w.heap.size w w' := by
  have H := Lib.hid h
  have HM := Lib.hid hM
  have HF := Lib.hid hF
  have HS := Lib.hid hs
  obtain ⟨A1, c1, rfl, hc1, hm1, -⟩ := h.open_
  unfold maxLen at hm1
  clear h hM hF hs
  obtain ⟨⟨r1, r2⟩, hR⟩ : ∃ R, writeS d tl = R := ⟨_, rfl⟩
  rw [hR]
  have HR := Lib.hid hR
  clear hR
  obtain ⟨⟨ws, z⟩, hW⟩ : ∃ R, allW (d.map (·.1)) = R := ⟨_, rfl⟩
  have HW := Lib.hid hW
  clear hW
  go_enter Tryd.func30, Tryd.ntmps30
  go_wp2_with fail
  refine (statements_any _ _ tl d (H.out.below (new_ (Below.refl _ _) _)) HS.out.doc).mono ?_
  rintro e w2 ⟨v2, rfl, hv2, hb2⟩
  have HV2 := Lib.hid hv2
  have HB2 := Lib.hid (then_ (new_ (Below.refl _ w) (.cells #[.slice A1 d.length c1, .string ⟨tl.toArray⟩] 40)) hb2)
  have HR1 := Lib.hid ((Row.new w 40 #[.slice A1 d.length c1, .string ⟨tl.toArray⟩]).below hb2 (by simp))
  obtain ⟨A2, c2, rfl, -⟩ := hv2.open_
  rw [List.length_map]
  replace HV2 : Hid (Stms w2 (.slice A2 d.length c2) (d.map (·.1))) := Lib.hid (by have h := HV2.out; rwa [List.length_map] at h)
  clear hv2 hb2
  go_wp2_with fail
  refine (all_any _ _ (d.map (·.1)) HV2.out (fun x hx => by obtain ⟨y, hy, rfl⟩ := List.mem_map.1 hx; exact HS.out.proof y hy) (HF.out.below HB2.out)).mono ?_
  rw [HW.out]
  rintro e w3 ⟨v3, rfl, hv3, hb3⟩
  have HB3 := Lib.hid (then_ HB2.out hb3)
  have HR3 := Lib.hid (HR1.out.below hb3 HR1.out.lt)
  obtain ⟨A3, c3, rfl, -⟩ := hv3.open_
  clear hv3 hb3
  by_cases hz : z = 0
  · subst hz
    have e1 : ((0 : Int) != 0) = false := rfl
    have q0 := HR3.out.cell (i := 0) (v := .slice A1 d.length c1) rfl
    have q1 := HR3.out.cell (i := 1) (v := .string ⟨tl.toArray⟩) rfl
    have hall := allW_fine (HW.out ▸ rfl : (allW (d.map (·.1))).2 = 0)
    have HALL := Lib.hid hall
    have hd := HS.out.doc.1
    clear hall
    go_wp2_with fail
    go_loopw [28] (fun iv wr => ∃ i : Nat, i ≤ d.length ∧ iv = .int .i64 i ∧ (∀ (j : Nat) x, j < i → d[j]? = some x → x.2.length = (wordsS x.1).length) ∧ Below w3.heap.size w3 wr) (fun iv _ => d.length - (intOf iv).toNat)
    case atStart => exact ⟨0, Nat.zero_le _, rfl, fun j x h => by omega, Below.refl _ _⟩
    case round =>
      obtain ⟨wo, rfl⟩ : ∃ wo, wo = wr := ⟨_, rfl⟩
      obtain ⟨i, hi, rfl, hok, hB⟩ := hrel
      have HOK := Lib.hid hok
      have HB := Lib.hid (then_ HB3.out hB)
      have HBI := Lib.hid hB
      by_cases hlt : i < d.length
      · obtain ⟨y, hy⟩ : ∃ y, d[i]? = some y := ⟨_, List.getElem?_eq_getElem hlt⟩
        obtain ⟨A', c', hv, _, _, hxx⟩ := (H.out.below HB.out).open_
        obtain ⟨b, o, tv, pv, gv, hA, g0, g1, g2, g3, g4, hT, hP, hG⟩ := hxx i y hy
        obtain ⟨rfl, _, rfl⟩ := (by simpa using hv : A1 = A' ∧ True ∧ c1 = c')
        subst hA
        obtain ⟨T1, d1, rfl, -⟩ := hT.open_
        obtain ⟨P1, e1, rfl, -⟩ := hP.open_
        obtain ⟨G1, f1, rfl, hcg, hmg, -⟩ := hG.open_
        have hmem := List.mem_of_getElem? hy
        have HK := Lib.hid (formed_kind (HALL.out y.1 (List.mem_map_of_mem hmem)))
        have HN := Lib.hid (HS.out.doc.2 y hmem)
        have HT := Lib.hid hT
        have HP := Lib.hid hP
        have HY := Lib.hid hy
        obtain ⟨bl, hbl⟩ : ∃ b, (y.2.length == (wordsS y.1).length) = b := ⟨_, rfl⟩
        have hbl2 : ((y.2.length : Int) == ((wordsS y.1).length : Int)) = bl := (beq_cast _ _).trans hbl
        have HBL := Lib.hid hbl
        have hr8 := Row.new wo 62 #[.int .i64 y.1.kind, .string ⟨y.1.label.toArray⟩, .slice T1 y.1.text.length d1, .slice P1 y.1.proof.length e1, .slice G1 y.2.length f1]
        clear hxx hv hT hP hG hok hB hmem hy
        have p0 := hr8.cell (i := 0) (v := .int .i64 y.1.kind) rfl
        have p1 := hr8.cell (i := 1) (v := .string ⟨y.1.label.toArray⟩) rfl
        have p2 := hr8.cell (i := 2) (v := .slice T1 y.1.text.length d1) rfl
        have p3 := hr8.cell (i := 3) (v := .slice P1 y.1.proof.length e1) rfl
        have p4 := hr8.cell (i := 4) (v := .slice G1 y.2.length f1) rfl
        clear hr8
        go_wp2_with fail
        go_region_held3 (fun W' => W'.cell? ⟨wo.heap.size, 0, none⟩ = some (.int .i64 y.1.kind) ∧ W'.cell? ⟨wo.heap.size, 1, none⟩ = some (.string ⟨y.1.label.toArray⟩) ∧ W'.cell? ⟨wo.heap.size, 2, none⟩ = some (.slice T1 y.1.text.length d1) ∧ W'.cell? ⟨wo.heap.size, 3, none⟩ = some (.slice P1 y.1.proof.length e1) ∧ W'.cell? ⟨wo.heap.size, 4, none⟩ = some (.slice G1 y.2.length f1)) (go_keep) ((go_at_call 42; (refine (wordsOf_any _ y.1 _ _ (Strs.below HT.out (new_ (Below.refl _ _) _).drew) (Strs.below HP.out (new_ (Below.refl _ _) _).drew) HK.out HN.out.1 HN.out.2 (HF.out.below (then_ HB.out (new_ (Below.refl _ _) _).drew))).mono ?_; rintro e w5 ⟨v5, rfl, hv5, hb5⟩; obtain ⟨A5, c5, rfl, -⟩ := hv5.open_; have k0 := (hb5.cell (p := ⟨wo.heap.size, 0, none⟩) (by simp)).trans p0; have k1 := (hb5.cell (p := ⟨wo.heap.size, 1, none⟩) (by simp)).trans p1; have k2 := (hb5.cell (p := ⟨wo.heap.size, 2, none⟩) (by simp)).trans p2; have k3 := (hb5.cell (p := ⟨wo.heap.size, 3, none⟩) (by simp)).trans p3; have k4 := (hb5.cell (p := ⟨wo.heap.size, 4, none⟩) (by simp)).trans p4; have HB5 := Lib.hid (then_ (new_ (Below.refl _ wo) _).drew hb5))))
        cases bl with
        | false =>
          have HQ : Hid (r1 = [] ∧ r2 = 4) := Lib.hid (by
            have h1 := HR.out
            unfold writeS at h1
            rw [HW.out] at h1
            dsimp only at h1
            have hl : lensS d = false := by
              unfold lensS
              rw [List.all_eq_false]
              exact ⟨y, List.mem_of_getElem? HY.out, by rw [HBL.out]; simp⟩
            rw [if_neg (by simp), if_pos hl] at h1
            cases h1
            exact ⟨rfl, rfl⟩)
          go_wp2_with fail
          refine bodyPost_ret (v := .tuple #[.string ⟨#[]⟩, .int .i64 4]) (by simp [results, Tryd.results30, go_sem]) rfl ?_
          rw [HQ.out.1, HQ.out.2]
          exact ⟨rfl, then_ HB.out HB5.out⟩
        | true =>
          go_wp2_with fail
          go_roundw
          case rel => exact ⟨i + 1, by omega, by go_num, fun j x hj hx => by
            by_cases e : j = i
            · subst e
              rw [HY.out] at hx
              cases hx
              simpa using HBL.out
            · exact HOK.out j x (by omega) hx, then_ HBI.out HB5.out⟩
          case measure => simp [intOf]; omega
      · obtain rfl : i = d.length := by omega
        have hlen : lensS d = true := by
          unfold lensS
          rw [List.all_eq_true]
          intro x hx
          obtain ⟨j, hj⟩ := List.getElem?_of_mem hx
          simpa using HOK.out j x (List.getElem?_eq_some_iff.1 hj).1 hj
        have HLEN := Lib.hid hlen
        have HR4 := Lib.hid (HR3.out.below hB HR3.out.lt)
        have p0 := HR4.out.cell (i := 0) (v := .slice A1 d.length c1) rfl
        have p1 := HR4.out.cell (i := 1) (v := .string ⟨tl.toArray⟩) rfl
        clear hok hB hlen q0 q1 HBI HOK
        go_wp2_with fail
        refine (docRight_any _ _ tl d (H.out.below HB.out) (HM.out.below HB.out) HS.out.gaps HS.out.tail).mono ?_
        obtain ⟨rb, hrb⟩ : ∃ b, docRight d tl = b := ⟨_, rfl⟩
        rw [hrb]
        rintro e w5 ⟨rfl, hb5⟩
        have HRB := Lib.hid hrb
        have HB5 := Lib.hid (then_ HB.out hb5)
        have HR5 := Lib.hid (HR4.out.below hb5 HR4.out.lt)
        clear hrb hb5 p0 p1
        cases rb with
        | false =>
          have HQ : Hid (r1 = [] ∧ r2 = 2) := Lib.hid (by
            have h1 := HR.out
            unfold writeS at h1
            rw [HW.out] at h1
            dsimp only at h1
            rw [if_neg (by simp), if_neg (by rw [HLEN.out]; simp), if_pos HRB.out] at h1
            cases h1
            exact ⟨rfl, rfl⟩)
          go_wp2_with fail
          refine bodyPost_ret (v := .tuple #[.string ⟨#[]⟩, .int .i64 2]) (by simp [results, Tryd.results30, go_sem]) rfl ?_
          rw [HQ.out.1, HQ.out.2]
          exact ⟨rfl, HB5.out⟩
        | true =>
          obtain ⟨S, hS⟩ : ∃ S, outS d ++ tl = S := ⟨_, rfl⟩
          have HQ : Hid ((if 40000 < S.length then (([], 15) : List UInt8 × Int) else if 8000 < (toks 0 S).length then ([], 8) else (S, 0)) = (r1, r2)) := Lib.hid (by
            have h1 := HR.out
            unfold writeS at h1
            rw [HW.out] at h1
            dsimp only at h1
            rw [if_neg (by simp), if_neg (by rw [HLEN.out]; simp), if_neg (by rw [HRB.out]; simp), hS] at h1
            exact h1)
          have hsz := HS.out.all
          rw [hS] at hsz
          have hasc : ∀ b ∈ S, b.toNat < 128 := fun b hb => byte_ascii (out_byte (fun x hx => HALL.out x.1 (List.mem_map_of_mem hx)) HRB.out b (hS ▸ hb))
          have HASC := Lib.hid hasc
          have HSS := Lib.hid hS
          have p0 := (HR5.out.alloc (.cells #[.pointer none, .slice none 0 0] 97)).cell (i := 0) (v := .slice A1 d.length c1) rfl
          clear hS hasc
          go_wp2_with fail
          go_loopw [47] (fun iv wr => ∃ i : Nat, i ≤ d.length ∧ iv = .int .i64 i ∧ BldF wr w5.heap.size (outS (d.take i)) ∧ Below w5.heap.size w5 wr) (fun iv _ => d.length - (intOf iv).toNat)
          case atStart => exact ⟨0, Nat.zero_le _, rfl, BldF.new _, new_ (Below.refl _ _) _⟩
          case round =>
            obtain ⟨wo, rfl⟩ : ∃ wo, wo = wr := ⟨_, rfl⟩
            obtain ⟨i, hi, rfl, hbl, hB⟩ := hrel
            have HBL := Lib.hid hbl
            have HBo := Lib.hid hB
            have hzo := hB.size
            have hbo := hbl.lt
            by_cases hlt : i < d.length
            · obtain ⟨y, hy⟩ : ∃ y, d[i]? = some y := ⟨_, List.getElem?_eq_getElem hlt⟩
              obtain ⟨A', c', hv, _, _, hxx⟩ := (H.out.below HB5.out).open_
              obtain ⟨b, o, tv, pv, gv, hA, g0, g1, g2, g3, g4, hT, hP, hG⟩ := hxx i y hy
              obtain ⟨rfl, _, rfl⟩ := (by simpa using hv : A1 = A' ∧ True ∧ c1 = c')
              subst hA
              obtain ⟨T1, d1, rfl, -⟩ := hT.open_
              obtain ⟨P1, e1, rfl, -⟩ := hP.open_
              obtain ⟨G1, f1, rfl, hcg, hmg, -⟩ := hG.open_
              unfold maxLen at hmg
              have hmem := List.mem_of_getElem? hy
              have HK := Lib.hid (formed_kind (HALL.out y.1 (List.mem_map_of_mem hmem)))
              have HN := Lib.hid (HS.out.doc.2 y hmem)
              have HYL : Hid (y.2.length = (wordsS y.1).length) := Lib.hid (by
                have h1 := List.all_eq_true.1 HLEN.out y hmem
                simpa using h1)
              have HT := Lib.hid hT
              have HP := Lib.hid hP
              have HG := Lib.hid hG
              have HY := Lib.hid hy
              have HGZ := Lib.hid (HS.out.gaps y hmem)
              have HWZ := Lib.hid (HS.out.words y hmem)
              have k0 := cellB g0 hB
              have k1 := cellB g1 hB
              have k2 := cellB g2 hB
              have k3 := cellB g3 hB
              have k4 := cellB g4 hB
              clear hxx hv hT hP hG hmem hy hbl hB g0 g1 g2 g3 g4
              go_wp2_with fail
              refine (wordsOf_own _ y.1 _ _ (Strs.below HT.out (new_ HBo.out _)) (Strs.below HP.out (new_ HBo.out _)) HK.out HN.out.1 HN.out.2 (HF.out.below (then_ HB5.out (new_ HBo.out _)))).mono ?_
              rintro e w7 ⟨v7, rfl, hv7⟩
              obtain ⟨A7, c7, rfl⟩ := hv7.form
              have HOW := Lib.hid hv7.own
              have hb7 := hv7.below
              have HX := Lib.hid ((Row.new wo 62 #[.int .i64 y.1.kind, .string ⟨y.1.label.toArray⟩, .slice T1 y.1.text.length d1, .slice P1 y.1.proof.length e1, .slice G1 y.2.length f1]).below hb7 (by simp))
              have HBL7 := Lib.hid ((HBL.out.below (new_ (Below.refl _ _) (.cells #[.int .i64 y.1.kind, .string ⟨y.1.label.toArray⟩, .slice T1 y.1.text.length d1, .slice P1 y.1.proof.length e1, .slice G1 y.2.length f1] 62))).below hb7)
              have HB7 := Lib.hid (then_ (new_ HBo.out (.cells #[.int .i64 y.1.kind, .string ⟨y.1.label.toArray⟩, .slice T1 y.1.text.length d1, .slice P1 y.1.proof.length e1, .slice G1 y.2.length f1] 62)) hb7)
              have hz7 := hb7.size
              have hsw : (wordsS y.1).length ≤ 9223372036854775807 := by have := HYL.out; omega
              clear hv7 hb7 k0 k1 k2 k3 k4
              go_wp2_with fail
              go_loopw [55] (fun jv wq => ∃ j : Nat, j ≤ (wordsS y.1).length ∧ jv = .int .i64 j ∧ BldF wq w5.heap.size (outS (d.take i) ++ ((y.2.zip (wordsS y.1)).take j).flatMap fun p => p.1 ++ p.2) ∧ Row wq wo.heap.size 62 #[.int .i64 y.1.kind, .string ⟨y.1.label.toArray⟩, .slice T1 y.1.text.length d1, .slice P1 y.1.proof.length e1, .slice G1 y.2.length f1] ∧ wq.ownsRow (wo.alloc (.cells #[.int .i64 y.1.kind, .string ⟨y.1.label.toArray⟩, .slice T1 y.1.text.length d1, .slice P1 y.1.proof.length e1, .slice G1 y.2.length f1] 62)).heap.size 9 1 (.slice A7 (wordsS y.1).length c7) (wordsS y.1).length (strC (wordsS y.1)) ∧ Below w5.heap.size w5 wq) (fun jv _ => (wordsS y.1).length - (intOf jv).toNat)
              case atStart => exact ⟨0, Nat.zero_le _, rfl, by simpa using HBL7.out, HX.out, HOW.out, HB7.out⟩
              case round =>
                obtain ⟨j, hj, rfl, hbl, hx, how, hB⟩ := hrel
                by_cases hlj : j < (wordsS y.1).length
                · obtain ⟨u, hu⟩ : ∃ u, (wordsS y.1)[j]? = some u := ⟨_, List.getElem?_eq_getElem hlj⟩
                  obtain ⟨g, hg⟩ : ∃ g, y.2[j]? = some g := ⟨_, List.getElem?_eq_getElem (by have := HYL.out; omega)⟩
                  have hjy : j < y.2.length := by have := HYL.out; omega
                  obtain ⟨P, hP⟩ : ∃ P, outS (d.take i) ++ ((y.2.zip (wordsS y.1)).take j).flatMap (fun p => p.1 ++ p.2) = P := ⟨_, rfl⟩
                  have hnext : outS (d.take i) ++ ((y.2.zip (wordsS y.1)).take (j + 1)).flatMap (fun p => p.1 ++ p.2) = (P ++ g) ++ u := by
                    rw [← hP, take_snoc (show (y.2.zip (wordsS y.1))[j]? = some (g, u) by rw [List.getElem?_zip_eq_some]; exact ⟨hg, hu⟩), List.flatMap_append]
                    simp
                  have hPl : P.length ≤ 1000000 := by
                    have h1 := HS.out.all
                    rw [List.length_append, out_split HY.out j, hP] at h1
                    omega
                  have hgl := HGZ.out g (List.mem_of_getElem? hg)
                  have hul := HWZ.out u (List.mem_of_getElem? hu)
                  rw [hP] at hbl
                  have HNX := Lib.hid hnext
                  obtain ⟨A8, c8, hv8, hc8, -, hx8⟩ := Strs.open_ (show Strs wr (.slice A7 (wordsS y.1).length c7) (wordsS y.1) from Rds.of_own how)
                  obtain ⟨b8, o8, hA8, q8⟩ := hx8 j u hu
                  obtain ⟨rfl, rfl⟩ := (by simpa using hv8 : A7 = A8 ∧ c7 = c8)
                  subst hA8
                  obtain ⟨A9, c9, hv9, hc9, -, hx9⟩ := Strs.open_ (Strs.below HG.out hB)
                  obtain ⟨b9, o9, hA9, q9⟩ := hx9 j g hg
                  obtain ⟨rfl, _, rfl⟩ := (by simpa using hv9 : G1 = A9 ∧ True ∧ f1 = c9)
                  subst hA9
                  have q4 := hx.cell (i := 4) (v := .slice (some ⟨b9, o9, none⟩) y.2.length f1) rfl
                  have HBL := Lib.hid hbl
                  have HXX := Lib.hid hx
                  have HOW := Lib.hid how
                  have HBB := Lib.hid hB
                  have hzr := hB.size
                  clear hv8 hx8 hv9 hx9 hu hg hP hnext hbl hx how hB
                  go_wp2_with fail
                  refine (bldf_str wr w5.heap.size P g HBL.out (by omega) (by omega)).mono ?_
                  rintro e w8 ⟨⟨v8, rfl⟩, hbl8, hk8⟩
                  have HBL8 := Lib.hid hbl8
                  have hx8 := HXX.out.wrote hk8 (by decide) (by omega)
                  have how8 := own_wrote HOW.out hk8 HBL.out (by decide) (by decide)
                  have HX8 := Lib.hid hx8
                  have HOW8 := Lib.hid how8
                  have HB8 := Lib.hid (HBB.out.trans hk8.below)
                  have hz8 := HB8.out.size
                  clear hbl8 hk8 hx8 how8
                  go_wp2_with fail
                  refine (bldf_str w8 w5.heap.size (P ++ g) u HBL8.out (by simp; omega) (by omega)).mono ?_
                  rintro e w9 ⟨⟨v9, rfl⟩, hbl9, hk9⟩
                  have HBL9 := Lib.hid hbl9
                  have HX9 := Lib.hid (HX8.out.wrote hk9 (by decide) (by omega))
                  have HOW9 := Lib.hid (own_wrote HOW8.out hk9 HBL8.out (by decide) (by decide))
                  have HB9 := Lib.hid (HB8.out.trans hk9.below)
                  clear hbl9 hk9
                  go_wp2_with fail
                  go_roundw
                  case rel => exact ⟨j + 1, by omega, by go_num, by rw [HNX.out]; exact HBL9.out, HX9.out, HOW9.out, HB9.out⟩
                  case measure => simp [intOf]; omega
                · obtain rfl : j = (wordsS y.1).length := by omega
                  have hfl : outS (d.take i) ++ ((y.2.zip (wordsS y.1)).take (wordsS y.1).length).flatMap (fun p => p.1 ++ p.2) = outS (d.take (i + 1)) := by
                    rw [List.take_of_length_le (l := y.2.zip (wordsS y.1)) (by rw [List.length_zip]; exact Nat.min_le_right _ _), take_snoc HY.out]
                    unfold outS
                    rw [List.flatMap_append]
                    simp [outP]
                  rw [hfl] at hbl
                  have HBL := Lib.hid hbl
                  have HBB := Lib.hid hB
                  clear hbl hx how hB hfl
                  go_wp2_with fail
                  go_roundw
                  case rel => exact ⟨i + 1, by omega, by go_num, HBL.out, HBB.out⟩
                  case measure => simp [intOf]; omega
            · obtain rfl : i = d.length := by omega
              rw [List.take_length] at hbl
              have q1 := (HR5.out.below hB HR5.out.lt).cell (i := 1) (v := .string ⟨tl.toArray⟩) rfl
              have HBL := Lib.hid hbl
              have HBB := Lib.hid hB
              have hol : (outS d).length ≤ 1000000 := by have h1 := HS.out.all; rw [List.length_append] at h1; omega
              have htl := HS.out.tail
              clear hbl hB
              go_wp2_with fail
              refine (bldf_str wo w5.heap.size (outS d) tl HBL.out (by omega) (by omega)).mono ?_
              rintro e w8 ⟨⟨v8, rfl⟩, hbl8, hk8⟩
              rw [HSS.out] at hbl8
              have HBL8 := Lib.hid hbl8
              have HB8 := Lib.hid (HBB.out.trans hk8.below)
              clear hbl8 hk8
              go_wp2_with fail
              refine (bldf_string w8 w5.heap.size S HBL8.out).mono ?_
              rintro e w9 ⟨rfl, hk9⟩
              have HB9 := Lib.hid (HB8.out.trans hk9.below)
              clear hk9
              by_cases hlarge : 40000 < S.length
              · have e1 : decide ((40000 : Int) < (S.length : Int)) = true := decide_eq_true (by omega)
                have e2 : decide (40000 < S.length) = true := decide_eq_true hlarge
                have HQ2 : Hid (r1 = [] ∧ r2 = 15) := Lib.hid (by
                  have h1 := HQ.out
                  rw [if_pos hlarge] at h1
                  cases h1
                  exact ⟨rfl, rfl⟩)
                go_wp2_with fail
                refine bodyPost_ret (v := .tuple #[.string ⟨#[]⟩, .int .i64 15]) (by simp [results, Tryd.results30, go_sem]) rfl ?_
                rw [HQ2.out.1, HQ2.out.2]
                exact ⟨rfl, then_ HB5.out HB9.out⟩
              · have e1 : decide ((40000 : Int) < (S.length : Int)) = false := decide_eq_false (by omega)
                have e2 : decide (40000 < S.length) = false := decide_eq_false hlarge
                have HQ2 := HQ.out
                rw [if_neg hlarge] at HQ2
                replace HQ2 := Lib.hid HQ2
                go_wp2_with fail
                refine (fields_white w9 S HASC.out (by omega)).mono ?_
                rintro e w10 ⟨v10, rfl, hv10, hb10⟩
                obtain ⟨A10, c10, rfl, -⟩ := hv10.open_
                rw [List.length_map]
                have HB10 := Lib.hid (then_ HB9.out hb10)
                clear hv10 hb10
                by_cases h8 : 8000 < (toks 0 S).length
                · have e3 : decide ((8000 : Int) < ((toks 0 S).length : Int)) = true := decide_eq_true (by omega)
                  have e4 : decide (8000 < (toks 0 S).length) = true := decide_eq_true h8
                  have HQ3 : Hid (r1 = [] ∧ r2 = 8) := Lib.hid (by
                    have h1 := HQ2.out
                    rw [if_pos h8] at h1
                    cases h1
                    exact ⟨rfl, rfl⟩)
                  go_wp2_with fail
                  refine bodyPost_ret (v := .tuple #[.string ⟨#[]⟩, .int .i64 8]) (by simp [results, Tryd.results30, go_sem]) rfl ?_
                  rw [HQ3.out.1, HQ3.out.2]
                  exact ⟨rfl, then_ HB5.out HB10.out⟩
                · have e3 : decide ((8000 : Int) < ((toks 0 S).length : Int)) = false := decide_eq_false (by omega)
                  have e4 : decide (8000 < (toks 0 S).length) = false := decide_eq_false h8
                  have HQ3 : Hid (r1 = S ∧ r2 = 0) := Lib.hid (by
                    have h1 := HQ2.out
                    rw [if_neg h8] at h1
                    cases h1
                    exact ⟨rfl, rfl⟩)
                  go_wp2_with fail
                  refine bodyPost_ret (v := .tuple #[.string ⟨S.toArray⟩, .int .i64 0]) (by simp [results, Tryd.results30, go_sem]) rfl ?_
                  rw [HQ3.out.1, HQ3.out.2]
                  exact ⟨rfl, then_ HB5.out HB10.out⟩
  · have e1 : (z != 0) = true := by simpa using hz
    have HQ : Hid (r1 = [] ∧ r2 = z) := Lib.hid (by
      have h1 := HR.out
      unfold writeS at h1
      rw [HW.out] at h1
      dsimp only at h1
      rw [if_pos hz] at h1
      cases h1
      exact ⟨rfl, rfl⟩)
    go_wp2_with fail
    refine bodyPost_ret (v := .tuple #[.string ⟨#[]⟩, .int .i64 z]) (by simp [results, Tryd.results30, go_sem]) rfl ?_
    rw [HQ.out.1, HQ.out.2]
    exact ⟨rfl, HB3.out⟩
end Go.Proofs.YtpmbfcogkoiogaaDoor
end
