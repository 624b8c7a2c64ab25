/- Texts: of the program, of the reference. The program's Read: the document of a text. -/
import Derived.Test.YtpmbfcogkoiogaaDoorDocPA
import Derived.Test.YtpmbfcogkoiogaaDoorAppA
import Derived.Test.YtpmbfcogkoiogaaDoorScanWA
import Derived.Test.YtpmbfcogkoiogaaDoorDocIA
import Derived.Test.YtpmbfcogkoiogaaDoorStripA
import Derived.Test.YtpmbfcogkoiogaaDoorLayReadA
import Derived.BigRegionIn
section
namespace Go.Proofs.YtpmbfcogkoiogaaDoor
open Go.RowKit
theorem form_toks {w : World} {size n : Nat} {v : Value} {xs : List Value} (h : Rds w size v n xs) : ∃ a c, v = .slice a n c := by
  obtain ⟨a, c, h, _⟩ := h
  exact ⟨a, c, h⟩
set_option maxHeartbeats 4000000 in
theorem texts_any (w : World) (v : Value) (l : List TokD) (hv : ToksAt w v l) (hl : l.length ≤ 8000) :
    Calls Tryd.prog 35 #[v] w fun e w' => ∃ v', e = .returned v' ∧ Strs w' v' (l.map (·.1)) ∧ Below w.heap.size w w' := by
  obtain ⟨A1, a1, rfl⟩ := form_toks hv
  have HV1 := Lib.hid hv
  clear hv
  obtain ⟨i0, hi, hj0, hj1, hj2⟩ := info_parts infoStr
  go_enter Tryd.func35, Tryd.ntmps35
  go_wp2
  go_loopw [3, 8] (fun ov i wr => ∃ k : Nat, k ≤ l.length ∧ i = .int .i64 k ∧ wr.ownsRow w.heap.size 9 1 ov k ((l.take k).map fun t => Value.string ⟨t.1.toArray⟩) ∧ Below w.heap.size w wr) (fun _ i _ => l.length - (intOf i).toNat)
  case atStart => exact ⟨0, Nat.zero_le _, rfl, World.ownsRow_nil _ _ _ _, Below.refl _ _⟩
  case round =>
    obtain ⟨k, hk, rfl, hown, hb⟩ := hrel
    have hwz := hb.size
    by_cases hlt : k < l.length
    · obtain ⟨t, hx⟩ : ∃ x, l[k]? = some x := ⟨_, List.getElem?_eq_getElem hlt⟩
      obtain ⟨A', c', hvv, _, _, hxx⟩ := ToksAt.open_ (HV1.out.below hb)
      obtain ⟨b, o, hA, g1, g2⟩ := hxx k _ hx
      obtain ⟨rfl, _, rfl⟩ := (by simpa using hvv : A1 = A' ∧ True ∧ a1 = c')
      subst hA
      obtain ⟨L, hL⟩ : ∃ L, L = (l.take k).map fun t => Value.string ⟨t.1.toArray⟩ := ⟨_, rfl⟩
      rw [← hL] at hown
      have HT : Hid ((l.take (k + 1)).map (fun t => Value.string ⟨t.1.toArray⟩) = L ++ [Value.string ⟨t.1.toArray⟩]) := Lib.hid (by rw [hL, take_snoc hx]; simp)
      have HO := Lib.hid hown
      have HB := Lib.hid hb
      clear hxx hx hvv hL hown hb
      go_wp2_with (at_builtin; (refine wpList_append_own _ rfl (.tmp 12) (.tmp 15) 22 rfl w.heap.size 9 i0 (.string ⟨#[]⟩) 1 16 Tryd.underlying22 hi hj0 hj1 hj2 rfl (by decide) _ k L rfl ((HO.out.alloc _).alloc _) ⟨wr.heap.size + 1, 0, none⟩ 1 1 [Value.string ⟨t.1.toArray⟩] rfl rfl (cells_at' _ _ _ _ rfl (by simp)) (by simp [Value.oneCell']) (by unfold maxLen; omega) (by omega) (by simp; omega) ?_; intro v' wz hown' hgrow _))
      go_roundw
      case rel => exact ⟨k + 1, by omega, by go_num, by rw [HT.out]; exact hown', ((HB.out.alloc hwz _).alloc (by simp; omega) _).grown hgrow (by simp; omega) (own_block HO.out)⟩
      case measure => simp [intOf]; omega
    · obtain rfl : k = l.length := by omega
      rw [List.take_length] at hown
      go_wp2
      go_ret
      refine ⟨_, rfl, ?_, hb⟩
      have h1 := Rds.of_own hown
      unfold Strs; simpa [strC, Function.comp_def] using h1
set_option maxHeartbeats 4000000 in
theorem ref_texts (w : World) (v : Value) (l : List TokD) (hv : ToksAt w v l) (hl : l.length ≤ 8000) :
    Calls Tryd.prog 48 #[v] w fun e w' => ∃ v', e = .returned v' ∧ Strs w' v' (l.map (·.1)) ∧ Below w.heap.size w w' := by
  obtain ⟨A1, a1, rfl⟩ := form_toks hv
  have HV1 := Lib.hid hv
  clear hv
  obtain ⟨i0, hi, hj0, hj1, hj2⟩ := info_parts infoStr
  go_enter Tryd.func48, Tryd.ntmps48
  go_wp2
  go_loopw [3, 4] (fun ov i wr => ∃ k : Nat, k ≤ l.length ∧ i = .int .i64 k ∧ wr.ownsRow w.heap.size 9 1 ov k ((l.take k).map fun t => Value.string ⟨t.1.toArray⟩) ∧ Below w.heap.size w wr) (fun _ i _ => l.length - (intOf i).toNat)
  case atStart =>
    have h1 := World.ownsRow_made (base := w.heap.size) (e := 9) (size := 1) w #[] 0 (Nat.le_refl _) (by decide) (by simp)
    exact ⟨0, Nat.zero_le _, rfl, by simpa using h1, new_ (Below.refl _ _) _⟩
  case round =>
    obtain ⟨k, hk, rfl, hown, hb⟩ := hrel
    have hwz := hb.size
    by_cases hlt : k < l.length
    · obtain ⟨t, hx⟩ : ∃ x, l[k]? = some x := ⟨_, List.getElem?_eq_getElem hlt⟩
      obtain ⟨A', c', hvv, _, _, hxx⟩ := ToksAt.open_ (HV1.out.below hb)
      obtain ⟨b, o, hA, g1, g2⟩ := hxx k _ hx
      obtain ⟨rfl, _, rfl⟩ := (by simpa using hvv : A1 = A' ∧ True ∧ a1 = c')
      subst hA
      obtain ⟨L, hL⟩ : ∃ L, L = (l.take k).map fun t => Value.string ⟨t.1.toArray⟩ := ⟨_, rfl⟩
      rw [← hL] at hown
      have HT : Hid ((l.take (k + 1)).map (fun t => Value.string ⟨t.1.toArray⟩) = L ++ [Value.string ⟨t.1.toArray⟩]) := Lib.hid (by rw [hL, take_snoc hx]; simp)
      have HO := Lib.hid hown
      have HB := Lib.hid hb
      clear hxx hx hvv hL hown hb
      go_wp2_with (at_builtin; (refine wpList_append_own _ rfl (.tmp 12) (.tmp 18) 22 rfl w.heap.size 9 i0 (.string ⟨#[]⟩) 1 16 Tryd.underlying22 hi hj0 hj1 hj2 rfl (by decide) _ k L rfl (HO.out.alloc _) ⟨wr.heap.size, 0, none⟩ 1 1 [Value.string ⟨t.1.toArray⟩] rfl rfl (cells_at' _ _ _ _ rfl (by simp)) (by simp [Value.oneCell']) (by unfold maxLen; omega) (by omega) (by simp; omega) ?_; intro v' wz hown' hgrow _))
      go_roundw
      case rel => exact ⟨k + 1, by omega, by go_num, by rw [HT.out]; exact hown', (HB.out.alloc hwz _).grown hgrow (by simp; omega) (own_block HO.out)⟩
      case measure => simp [intOf]; omega
    · obtain rfl : k = l.length := by omega
      rw [List.take_length] at hown
      go_wp2
      go_ret
      refine ⟨_, rfl, ?_, hb⟩
      have h1 := Rds.of_own hown
      unfold Strs; simpa [strC, Function.comp_def] using h1
end Go.Proofs.YtpmbfcogkoiogaaDoor
end
section
namespace Go.Proofs.YtpmbfcogkoiogaaDoor
open Go.RowKit Go.Shelf
attribute [local go_sem] Oper.semAt_some
theorem gaps_maker (s : List UInt8) (A : Option Addr) (n c : Nat) (w : World) :
    Calls Tryd.prog 46 #[.string ⟨s.toArray⟩, .slice A n c] w fun e w' => e = .returned (.func (.func 93) #[] #[.pointer (some ⟨w.heap.size + 1, 0, none⟩), .pointer (some ⟨w.heap.size, 0, none⟩)]) ∧ (w.alloc (.cells #[.string ⟨s.toArray⟩] 9)).alloc (.cells #[.slice A n c] 70) = w' := by
  go_enter Tryd.func46, Tryd.ntmps46
  go_wp2
  go_ret
  exact ⟨rfl, rfl⟩
theorem name_act {T : Act → Prop} {a : Act} (h : ∀ a0, a0 = a → T a0) : T a := h a rfl
theorem parts_app {w0 wr w5 : World} {A : Option Addr} {k c g : Nat} {L M : List Value} {v' : Value} {o1 o2 : Obj} (hO : wr.ownsRow (g + 1 + 1) 62 5 (.slice A k c) k L) (hR : Row wr (g + 1) 40 #[.slice A k c, .string ⟨#[]⟩]) (hB : Below w0.heap.size w0 wr) (hz : w0.heap.size = g + 1)
    (ho : w5.ownsRow (g + 1 + 1) 62 5 v' (k + 1) (L ++ M)) (hg : ((wr.alloc o1).alloc o2).grownBy w5 (Value.slice A k c).ownBlock) :
    (∃ A' c', v' = .slice A' (k + 1) c') ∧ w5.cell? ⟨g + 1, 0, none⟩ = some (.slice A k c) ∧ w5.frozen? ⟨g + 1, 0, none⟩ = false ∧ Row (w5.setCell ⟨g + 1, 0, none⟩ v') (g + 1) 40 #[v', .string ⟨#[]⟩] ∧ (w5.setCell ⟨g + 1, 0, none⟩ v').ownsRow (g + 1 + 1) 62 5 v' (k + 1) (L ++ M) ∧ Below w0.heap.size w0 (w5.setCell ⟨g + 1, 0, none⟩ v') := by
  obtain ⟨A', c', rfl, _⟩ := own_form ho
  have h2 := ca_own_alloc (ca_own_alloc hO o1) o2
  have hr : Row w5 (g + 1) 40 #[.slice A k c, .string ⟨#[]⟩] := ((hR.alloc o1).alloc o2).grown hg fun e => by have := own_block h2 _ e.symm; omega
  refine ⟨⟨A', c', rfl⟩, hr.cell (i := 0) rfl, hr.free 0, hr.set 0 _, own_store ho hr (by decide) _ _, ?_⟩
  exact ((((hB.alloc (by have := hB.size; omega) _).alloc (by have := hB.size; simp; omega) _).grown hg (by have := hB.size; simp; omega) fun j e => by have := own_block h2 _ e; omega)).setCell (p := ⟨g + 1, 0, none⟩) (by dsimp only; omega) _
theorem stm_cells {w : World} {A : Option Addr} {n c : Nat} {sp : List StmP} {k : Nat} {p : StmP} (h : Rds w 4 (.slice A n c) sp.length (sp.flatMap stmCells)) (hp : sp[k]? = some p) :
    ∃ b o, A = some ⟨b, o, none⟩ ∧ w.cell? ⟨b, o + k * 4, none⟩ = some (.int .i64 p.1.kind) ∧ w.cell? ⟨b, o + k * 4 + 1, none⟩ = some (.string ⟨p.1.label.toArray⟩) ∧ w.cell? ⟨b, o + k * 4 + 2, none⟩ = some p.2.1 ∧ w.cell? ⟨b, o + k * 4 + 3, none⟩ = some p.2.2 := by
  obtain ⟨A', c', hv, _, _, _, hr⟩ := h
  have hlt := (List.getElem?_eq_some_iff.1 hp).1
  obtain ⟨b, o, ha, hz⟩ := hr (by omega)
  cases hv
  have hf := fun i hi => flatR 4 stmCells (fun _ => rfl) sp k i p hp hi
  exact ⟨b, o, ha, hz (k * 4) _ (hf 0 (by omega)), hz (k * 4 + 1) _ (hf 1 (by omega)), hz (k * 4 + 2) _ (hf 2 (by omega)), hz (k * 4 + 3) _ (hf 3 (by omega))⟩
set_option maxRecDepth 100000 in
set_option maxHeartbeats 16000000 in
theorem doc_read_t (w : World) (text : List UInt8) (hM : MaxAt w) (hn : text.length ≤ 1000000) (hF : FormsAt w) :
    Calls Tryd.prog 19 #[.string ⟨text.toArray⟩] w (DocPostT 62 w (docS text)) := by
  obtain ⟨⟨toks, coms, off, err⟩, hs⟩ : ∃ r, stripS text = r := ⟨_, rfl⟩
  have HS := Lib.hid hs
  have HM := Lib.hid hM
  have HF := Lib.hid hF
  have hg := strip_gaps text
  rw [hs] at hg
  have HG := Lib.hid hg
  clear hs hM hF hg
  refine (callsIn_wide (n := 9)).1 ?_
  refine callsIn_of_wp_marks Tryd.func19 rfl trivial ?_ rfl
  simp only [Tryd.ntmps19, List.size_toArray, List.length_cons, List.length_nil, Nat.reduceAdd, Nat.reduceSub, Array.replicate_succ, Array.replicate_zero, List.push_toArray, List.append_toArray, List.nil_append, List.cons_append]
  by_cases herr : err = 0
  · subst herr
    have e1 : ((0 : Int) != 0) = false := rfl
    obtain ⟨⟨l, at_, pe⟩, hp⟩ : ∃ r, parseS (toks.map (·.1)) = r := ⟨_, rfl⟩
    have HP := Lib.hid hp
    have hlen := HG.out.2.2
    dsimp only at hlen
    clear hp
    gi_wp2_with fail
    refine ⟨trivial, ?_⟩
    refine (callsIn_wide.2 (strip_own _ text (HM.out.below (new_ (Below.refl _ _) _)))).mono ?_
    rw [HS.out]
    rintro e w1 ⟨v1, v2, rfl, h1, h2, hb⟩
    have hr2 := (Row.new w 40 #[.slice none 0 0, .string ⟨#[]⟩]).below hb (by simp)
    have HT : Hid (ToksAt w1 v1 toks) := Lib.hid (Rds.of_own h1)
    have HY := Lib.hid (TyB.of_own h1)
    have HB1 := Lib.hid ((new_ (Below.refl _ w) (.cells #[.slice none 0 0, .string ⟨#[]⟩] 40)).trans (hb.mono (by simp)))
    obtain ⟨A1, a1, rfl, -⟩ := HT.out.open_
    have HR2 := Lib.hid hr2
    clear h1 h2 hb hr2
    gi_wp2_with fail
    refine ⟨trivial, ?_⟩
    refine (callsIn_wide.2 (texts_any _ _ toks HT.out hlen)).mono ?_
    rintro e w2 ⟨v3, rfl, hv3, hb2⟩
    have HV3 := Lib.hid hv3
    have HB2 := Lib.hid hb2
    obtain ⟨A3, a3, rfl, -⟩ := hv3.open_
    replace HV3 : Hid (Strs w2 (.slice A3 toks.length a3) (toks.map (·.1))) := Lib.hid (by have h := HV3.out; rwa [List.length_map] at h)
    rw [List.length_map]
    clear hv3 hb2
    gi_wp2_with fail
    refine ⟨trivial, ?_⟩
    refine (callsIn_wide.2 (parse_any _ _ _ HV3.out (HF.out.below (then_ HB1.out HB2.out)))).mono ?_
    rw [HP.out]
    rintro e w3 ⟨v4, rfl, hv4, hb3⟩
    dsimp only at hv4
    obtain ⟨A4, a4, rfl, -⟩ := Stms.open_ hv4
    obtain ⟨sp, hsp, hrd, hst⟩ := hv4
    have HSP := Lib.hid hsp
    have HRD := Lib.hid hrd
    have HST := Lib.hid hst
    have HB3 := Lib.hid (then_ HB2.out hb3)
    have HR3 := Lib.hid (HR2.out.below HB3.out HR2.out.lt)
    clear hsp hrd hst hb3 HR2
    by_cases hpe : pe = 0
    · subst hpe
      have e2 : ((0 : Int) != 0) = false := rfl
      have hd : docS text = (partsF l (gapsF text 0 toks), (gapsF text 0 toks).getLastD [], 0, 0) := by
        unfold docS
        rw [HS.out]
        dsimp only
        rw [if_neg (by simp), HP.out]
        dsimp only
        rw [if_neg (by simp)]
      have HD := Lib.hid hd
      have hnum : (gapsF text 0 toks).length = numW l + 1 := by
        rw [gapsF_length]
        unfold numW
        rw [parse_words HP.out, List.length_map]
      have HNUM := Lib.hid hnum
      have hfine := parse_fine HP.out
      have HFN := Lib.hid hfine
      have hll : l.length ≤ 8000 := by
        have h1 := numW_ge l
        unfold numW at h1
        rw [parse_words HP.out, List.length_map] at h1
        omega
      clear hd hnum hfine
      gi_wp2_with fail
      obtain ⟨w0, hw0⟩ : ∃ w0, w3.alloc (.cells #[.slice A4 l.length a4] 23) = w0 := ⟨_, rfl⟩
      have hz0 : w0.heap.size = w3.heap.size + 1 := by rw [← hw0]; simp
      have hb30 : Below w3.heap.size w3 w0 := by rw [← hw0]; exact new_ (Below.refl _ _) _
      have h9 : Row w0 w3.heap.size 23 #[.slice A4 l.length a4] := by rw [← hw0]; exact Row.new _ _ _
      have H9 := Lib.hid h9
      have HB0 := Lib.hid (then_ (then_ HB1.out HB3.out) hb30)
      have HR0 := Lib.hid (HR3.out.below hb30 HR3.out.lt)
      have HT0 := Lib.hid ((HT.out.below HB3.out).below hb30)
      have HY0 := Lib.hid ((HY.out.below HB3.out).below hb30)
      have HF0 := Lib.hid (((HF.out.below HB1.out).below HB3.out).below hb30)
      have HRD0 := Lib.hid (HRD.out.below hb30)
      have HST0 : Hid (∀ p ∈ sp, Strs w0 p.2.1 p.1.text ∧ Strs w0 p.2.2 p.1.proof) := Lib.hid fun p hp => ⟨Strs.below (HST.out p hp).1 hb30, Strs.below (HST.out p hp).2 hb30⟩
      rw [hw0]
      clear hw0 h9 hb30 HRD HST HT HY HF HV3 HR3
      have hsl : sp.length = l.length := by rw [HSP.out, List.length_map]
      gi_loopw [53] (fun kv wr => ∃ (k c : Nat) (A : Option Addr), k ≤ l.length ∧ kv = .int .i64 k ∧ Row wr (w3.heap.size + 1) 40 #[.slice A k c, .string ⟨#[]⟩] ∧ wr.ownsRow (w3.heap.size + 1 + 1) 62 5 (.slice A k c) k ((sp.take k).flatMap fun p => partCells (p.1, p.2.1, p.2.2, .slice none 0 0, [])) ∧ Below w0.heap.size w0 wr) (fun kv _ => l.length - (intOf kv).toNat)
      case atStart => exact ⟨0, 0, none, Nat.zero_le _, rfl, by rw [← hz0]; exact Row.new _ _ _, own_nil _ _ _ _, new_ (Below.refl _ _) _⟩
      case round =>
        obtain ⟨k, c, A, hk, rfl, hr10, hown, hb⟩ := hrel
        by_cases hlt : k < l.length
        · obtain ⟨p, hp⟩ : ∃ p, sp[k]? = some p := ⟨_, List.getElem?_eq_getElem (by omega)⟩
          obtain ⟨x, tv, pv⟩ := p
          obtain ⟨hs1, hs2⟩ := HST0.out _ (List.mem_of_getElem? hp)
          obtain ⟨T1, d1, ht1, -⟩ := hs1.open_
          obtain ⟨T2, d2, ht2, -⟩ := hs2.open_
          dsimp only at ht1 ht2
          subst ht1 ht2
          obtain ⟨b, o, rfl, g0, g1, g2, g3⟩ := stm_cells (HRD0.out.below hb) hp
          dsimp only at g0 g1 g2 g3
          obtain ⟨L, hL⟩ : ∃ L, L = (sp.take k).flatMap fun p => partCells (p.1, p.2.1, p.2.2, .slice none 0 0, []) := ⟨_, rfl⟩
          rw [← hL] at hown
          have HTK : Hid ((sp.take (k + 1)).flatMap (fun p => partCells (p.1, p.2.1, p.2.2, .slice none 0 0, [])) = L ++ [.int .i64 x.kind, .string ⟨x.label.toArray⟩, .slice T1 x.text.length d1, .slice T2 x.proof.length d2, .slice none 0 0]) := Lib.hid (by rw [hL, take_snoc hp, List.flatMap_append]; rfl)
          have HO := Lib.hid hown
          have HB := Lib.hid hb
          have HR10 := Lib.hid hr10
          have c10 := (hr10.alloc (.cells #[.int .i64 x.kind, .string ⟨x.label.toArray⟩, .slice T1 x.text.length d1, .slice T2 x.proof.length d2] 34)).cell (i := 0) rfl
          have hzb := hb.size
          obtain ⟨i0, hi, hj0, hj1, hj2⟩ := info_parts infoPart
          clear hs1 hs2 hp hL hown hb hr10
          gi_wp2_with (gi_at_builtin; refine wpListIn_append_own _ rfl (.tmp 58) (.tmp 61) 38 rfl (w3.heap.size + 1 + 1) 62 i0 (.agg #[.int .i64 0, .string ⟨#[]⟩, .slice none 0 0, .slice none 0 0, .slice none 0 0]) 5 96 Tryd.underlying38 hi hj0 hj1 hj2 rfl (by decide) (.slice A k c) k L rfl (ca_own_alloc (ca_own_alloc HO.out _) _) ⟨wr.heap.size + 1, 0, none⟩ 1 1 [.int .i64 x.kind, .string ⟨x.label.toArray⟩, .slice T1 x.text.length d1, .slice T2 x.proof.length d2, .slice none 0 0] rfl rfl (cells_of' _ _ _ _ rfl (by simp)) (by simp [Value.oneCell']) (by unfold maxLen; omega) (by omega) (by simp; omega) ?_; intro v' w5 hown' hgrow _; have HQ := Lib.hid (parts_app HO.out HR10.out HB.out hz0 hown' hgrow); clear hown' hgrow; obtain ⟨⟨A', c', rfl⟩, c11, f11, -⟩ := HQ.out)
          go_roundw
          case rel => exact ⟨k + 1, _, _, by omega, by go_num, HQ.out.2.2.2.1, by rw [HTK.out]; exact HQ.out.2.2.2.2.1, HQ.out.2.2.2.2.2⟩
          case measure => simp [intOf]; omega
        · obtain rfl : k = l.length := by omega
          gi_wp2_with fail
          refine ⟨trivial, ?_⟩
          refine (callsIn_wide.2 (gaps_maker text A1 toks.length a1 _)).mono ?_
          rintro e W4 ⟨rfl, hW4⟩
          have hzb := hb.size
          have hg10 := hr10.lt
          have hz4 : W4.heap.size = wr.heap.size + 3 := by rw [← hW4]; simp
          have hb4 : Below wr.heap.size wr W4 := by rw [← hW4]; exact new_ (new_ (new_ (Below.refl _ _) _) _) _
          have r13 : Row W4 wr.heap.size 3 #[.int .i64 0] := by rw [← hW4]; exact ((Row.new _ _ _).alloc _).alloc _
          have rsb : Row W4 (wr.heap.size + 1) 9 #[.string ⟨text.toArray⟩] := by rw [← hW4]; exact (Row.new' _ _ _ (by simp)).alloc _
          have rvb : Row W4 (wr.heap.size + 1 + 1) 70 #[.slice A1 toks.length a1] := by rw [← hW4]; exact Row.new' _ _ _ (by simp)
          have hb04 : Below w0.heap.size w0 W4 := then_ hb hb4
          have hI0 := RdI.start (w0 := w0) (g10 := w3.heap.size + 1) (g13 := wr.heap.size) (sp := sp) HSP.out.symm (hr10.below hb4 hr10.lt) r13 (by rw [← hsl, List.take_length, hsl] at hown; exact own_below hown hb4) hb04
          have hseq := gaps_iter 8 (by omega) text toks (.slice A1 toks.length a1) (by unfold maxLen; omega) hlen ⟨Nat.zero_le _, fun t ht => ⟨Nat.zero_le _, HG.out.2.1 t ht⟩, HG.out.1⟩ (QG W4.heap.size) W4 (wr.heap.size + 1) (wr.heap.size + 1 + 1) ⟨rsb, rvb, HT0.out.below hb04, HY0.out.below hb04⟩
            (.inr ⟨by omega, .inl rfl⟩) (.inr ⟨by omega, .inr rfl⟩) (fun _ => .inl rfl)
          have HI0 := Lib.hid hI0
          have HSEQ := Lib.hid hseq
          clear hr10 hown hb hW4 r13 rsb rvb hb04 hI0 hseq hb4
          have hsz2 : (wr.alloc (.cells #[.int .i64 0] 3)).heap.size = wr.heap.size + 1 := by simp
          rw [hsz2]
          clear hsz2
          gi_wp2_with fail
          refine name_act (T := fun a => Code.wpIn _ _ _ _ _ a _) ?_
          intro a0 ha0
          refine range_law (n := 9) (encs := encG) (ps := #[68]) (by omega) (gf := 93) (lb := #[.pointer (some ⟨wr.heap.size + 1 + 1, 0, none⟩), .pointer (some ⟨wr.heap.size + 1, 0, none⟩)]) (by rw [ha0]; rfl) (enters_of Tryd.func93 (by kernel_rfl) rfl) HSEQ.out KeepsQ.trans
            (fun W l o o' _ hl ho _ => KeepsQ.putObj o' hl ho) (Below.refl _ _) (fun _ => rfl) (fun pre W => ∃ p base ps pv, RdI w0 (w3.heap.size + 1) wr.heap.size l sp pre W4.heap.size W p base ps pv) (fun c _ W => c = .exit 2 ∧ RdX 40 62 w0 (w3.heap.size + 1) l sp (gapsF text 0 toks) W) ?stab ?stabx ⟨_, _, _, _, HI0.out⟩
            (fun pre x a' W => a' = { tmps := (a0.tmps.setIfInBounds 68 (.string ⟨x.toArray⟩)).setIfInBounds 14 (.string ⟨x.toArray⟩), defers := [] } ∧ ∃ p base ps pv, RdI w0 (w3.heap.size + 1) wr.heap.size l sp pre W4.heap.size W p base ps pv) ?staba ?assign ?body ?done ?stop
          case stab =>
            rintro pre A A' ⟨p, base, ps, pv, h⟩ ht
            exact ⟨p, base, ps, pv, h.turn ht (by omega)⟩
          case stabx =>
            rintro c pre A A' ⟨h1, h⟩ ht
            exact ⟨h1, h.turn ht (by omega)⟩
          case staba =>
            rintro pre x a' _ A A' ⟨h1, p, base, ps, pv, h⟩ ht
            exact ⟨h1, p, base, ps, pv, h.turn ht (by omega)⟩
          case assign =>
            subst ha0
            intro yl pre x W K hI hpre hK
            simp only [encG]
            gi_wp2
            exact hK _ _ (KeepsFrom.refl _ _) (KeepsQ.refl _) ⟨rfl, hI⟩
          case body =>
            subst ha0
            rintro yl pre x a' W ⟨rfl, p, base, ps, pv, hI⟩ hpre
            simp only [List.setIfInBounds_toArray, List.set_cons_zero, List.set_cons_succ]
            gi_wp2_with fail
            obtain ⟨A9, c9, rfl, -⟩ := own_form hI.own
            have q9 := (H9.out.below hI.below (by rw [hz0]; omega)).cell (i := 0) (v := .slice A4 l.length a4) rfl
            have q10 := hI.rd.cell (i := 0) (v := .slice A9 l.length c9) rfl
            have q13 := hI.rp.cell (i := 0) (v := .int .i64 p) rfl
            have HIN := Lib.hid hI
            have HPRE := Lib.hid hpre
            by_cases hpl : p < l.length
            · obtain ⟨y, hy⟩ : ∃ y, ps[p]? = some y := ⟨_, List.getElem?_eq_getElem (by rw [hI.plen]; exact hpl)⟩
              obtain ⟨bP, rfl, hcP, hmP⟩ := own_some hI.own (by omega)
              have hysp : sp[p]? = some (y.1, y.2.1, y.2.2.1) := by rw [← hI.sp, List.getElem?_map, hy]; rfl
              have hyl : l[p]? = some y.1 := by rw [HSP.out, List.getElem?_map, hysp]; rfl
              obtain ⟨bL, oL, rfl, s0, s1, s2, s3⟩ := stm_cells (HRD0.out.below hI.below) hysp
              obtain ⟨hs1, hs2⟩ := HST0.out _ (List.mem_of_getElem? hysp)
              obtain ⟨hf1, hf2, hf3, -⟩ := HFN.out _ (List.mem_of_getElem? hyl)
              rw [List.length_map] at hf2 hf3
              have hgo := (hI.gp p y hy).2.1 rfl
              obtain ⟨Ag, cg, hgv, -⟩ := own_form hgo
              have hgc := hI.gapsCell hy
              rw [hgv] at hgc
              have hca4 : l.length ≤ a4 := by
                obtain ⟨A', c', hv', h', _⟩ := HRD0.out
                obtain ⟨_, h1', h2'⟩ := by simpa using hv'
                omega
              dsimp only at s0 s1 s2 s3 hs1 hs2
              have HY1 := Lib.hid hy
              have HYL := Lib.hid hyl
              clear hpre hI hysp hy hyl
              by_cases hfull : y.2.2.2.2.length = (wordsS y.1).length
              · have HFULL := Lib.hid hfull
                refine doc_reg18 (b := true) (x := y.1) q9 q10 q13 hpl hca4 hcP hmP (by rw [Nat.zero_add]; exact hgc) s0 s1 s2 s3 (Strs.below hs1 HIN.out.below) (Strs.below hs2 HIN.out.below) hf1 (by omega) (by omega) (HF0.out.below HIN.out.below) (by simpa using hfull) ?_
                intro y69 y70 y71 y72 y73 y74 y75 y76 y77 y78 y79 y80 y81 y82 y83 y84 y85 y86 y87 W' hb'
                dsimp only
                have q13' := (HIN.out.rp.below hb' HIN.out.rp.lt).cell (i := 0) (v := .int .i64 p) rfl
                have f13' := (HIN.out.rp.below hb' HIN.out.rp.lt).free 0
                have q9' := cellB q9 hb'
                have q10' := cellB q10 hb'
                clear q9 q10 q13 s0 s1 s2 s3 hgc hs1 hs2 hgo
                have hI2 := (HIN.out.grow hb').next HY1.out HFULL.out HYL.out (by omega) (by omega)
                rw [show ((p + 1 : Nat) : Int) = (p : Int) + 1 by omega] at hI2
                have HI2 := Lib.hid hI2
                have hkq : KeepsQ (QG W4.heap.size) W (W'.setCell ⟨wr.heap.size, 0, none⟩ (.int .i64 ((p : Int) + 1))) := (KeepsQ.below hb').trans (KeepsQ.setCell (p := ⟨wr.heap.size, 0, none⟩) (HIN.out.rp.below hb' HIN.out.rp.lt) (by rintro (h3 | ⟨_, h3 | h3⟩) <;> exact absurd h3 (by decide)) _)
                have hko : KeepsOthers W (W'.setCell ⟨wr.heap.size, 0, none⟩ (.int .i64 ((p : Int) + 1))) := (below_others hb').trans (KeepsOthers.setCell _ _ _)
                have HKQ := Lib.hid hkq
                have HKO := Lib.hid hko
                have n13 := hI2.rp.cell (i := 0) (v := .int .i64 ((p : Int) + 1)) rfl
                have n10 := hI2.rd.cell (i := 0) (v := .slice (some ⟨bP, 0, none⟩) l.length c9) rfl
                have t10 := hI2.rd.cell (i := 1) (v := .string ⟨#[]⟩) rfl
                have u10 := hI2.rd.free 1
                have n9 := (H9.out.below hI2.below (by rw [hz0]; omega)).cell (i := 0) (v := .slice (some ⟨bL, oL, none⟩) l.length a4) rfl
                clear hI2 hkq hko
                by_cases hend : p + 1 = l.length
                · have e4 : ((p : Int) + 1 == (l.length : Int)) = true := by simpa using (show (p : Int) + 1 = (l.length : Int) by omega)
                  have HEND := Lib.hid hend
                  clear hend
                  gi_wp2_with fail
                  refine ⟨(HKO.out.trans (KeepsOthers.setCell _ _ _)).from _, rfl, ?_⟩
                  have h5 := HI2.out
                  rw [HEND.out] at h5
                  exact h5.stop HPRE.out HNUM.out HSP.out.symm (by omega)
                · have e4 : ((p : Int) + 1 == (l.length : Int)) = false := by rw [beq_eq_false_iff_ne]; omega
                  obtain ⟨z, hz⟩ : ∃ z, ps[p + 1]? = some z := ⟨_, List.getElem?_eq_getElem (by rw [HI2.out.plen]; omega)⟩
                  have hzl : l[p + 1]? = some z.1 := by rw [HSP.out, List.getElem?_map, ← HI2.out.sp, List.getElem?_map, hz]; rfl
                  have hz5 : z.2.2.2.2 = [] := HIN.out.dl.none (p + 1) _ (by omega) (by rw [List.getElem?_map, hz]; rfl)
                  have hzv : z.2.2.2.1 = .slice none 0 0 := (HIN.out.gp (p + 1) z hz).2.2 (by omega)
                  have hgc2 := HI2.out.gapsCell hz
                  rw [hzv] at hgc2
                  obtain ⟨hbP, csP, hrP⟩ := HI2.out.partRow
                  have hpl2 : p + 1 < l.length := by omega
                  have hbase2 := HI2.out.b1
                  have n13' : (W'.setCell ⟨wr.heap.size, 0, none⟩ (.int .i64 ((p : Int) + 1))).cell? ⟨wr.heap.size, 0, none⟩ = some (.int .i64 ((p + 1 : Nat) : Int)) := by rw [n13]; congr 2
                  have HZ := Lib.hid hz
                  have HZL := Lib.hid hzl
                  clear hend hz hzl
                  gi_wp2_with fail
                  refine doc_reg22 (p := p + 1) (ng := 0) (Ag := none) (cg := 0) (gs := []) (base := W'.heap.size) n10 n13' hgc2 hpl2 hcP hmP (hrP.free _) (own_nil _ _ _ _) hbase2 (by omega) (fun _ e => nomatch e) (fun _ e => nomatch e) (fun _ e => nomatch e) ?_ (by omega) ?_
                  · exact row_ne hrP HI2.out.rp (by decide)
                  · intro y97 y98 y99 y100 y101 y102 y103 y104 y105 y106 y107 y108 y109 y110 g cap W5 ho5 hg5 hat5 hlt5
                    have hput := HI2.out.put HZ.out HZL.out (by rw [hz5]; exact words_pos _) (v2 := .slice (some ⟨g, 0, none⟩) (0 + 1) cap) (u := x) (by rw [hz5]; exact ho5) (by rw [hzv]; exact hg5) (by omega) (by omega)
                    exact ⟨(HKO.out.trans hput.2.2).from _, HKQ.out.trans hput.2.1, _, _, _, _, hput.1⟩
              · have hlt2 : y.2.2.2.2.length < (wordsS y.1).length := by
                  have := HIN.out.dl.here y.1 y.2.2.2.2 HYL.out (by rw [List.getElem?_map, HY1.out]; rfl)
                  omega
                refine doc_reg18 (b := false) (x := y.1) q9 q10 q13 hpl hca4 hcP hmP (by rw [Nat.zero_add]; exact hgc) s0 s1 s2 s3 (Strs.below hs1 HIN.out.below) (Strs.below hs2 HIN.out.below) hf1 (by omega) (by omega) (HF0.out.below HIN.out.below) (by simpa using hfull) ?_
                intro y69 y70 y71 y72 y73 y74 y75 y76 y77 y78 y79 y80 y81 y82 y83 y84 y85 y86 y87 W' hb'
                dsimp only
                have hI2 := HIN.out.grow hb'
                have HI2 := Lib.hid hI2
                have n13 := hI2.rp.cell (i := 0) (v := .int .i64 p) rfl
                have n10 := hI2.rd.cell (i := 0) (v := .slice (some ⟨bP, 0, none⟩) l.length c9) rfl
                have n9 := (H9.out.below hI2.below (by rw [hz0]; omega)).cell (i := 0) (v := .slice (some ⟨bL, oL, none⟩) l.length a4) rfl
                obtain ⟨hbP, csP, hrP⟩ := hI2.partRow
                have hgc2 := hI2.gapsCell HY1.out
                rw [hgv] at hgc2
                have hgo2 := (hI2.gp p y HY1.out).2.1 rfl
                rw [hgv] at hgo2
                have HGO := Lib.hid hgo2
                have hd13 := row_ne hrP hI2.rp (by decide)
                have hbase2 := hI2.b1
                have e4 : ((p : Int) == (l.length : Int)) = false := by rw [beq_eq_false_iff_ne]; omega
                have e5 : (p == l.length) = false := by rw [beq_eq_false_iff_ne]; omega
                have hw8 : (wordsS y.1).length ≤ 8000 := by
                  have h1 := words_mem (List.mem_of_getElem? HYL.out)
                  rw [parse_words HP.out, List.length_map] at h1
                  omega
                have HE13 := Lib.hid hI2.rp
                have HE10 := Lib.hid hI2.rd
                have HRP := Lib.hid hrP
                clear q9 q10 q13 s0 s1 s2 s3 hgc hs1 hs2 hgo hI2 hgo2 hfull hrP
                gi_wp2_with fail
                refine doc_reg22 (p := p) (ng := y.2.2.2.2.length) (Ag := Ag) (cg := cg) (gs := y.2.2.2.2) (base := base) n10 n13 hgc2 hpl hcP hmP (HRP.out.free _) HGO.out hbase2 (by omega) (fun k e => ?_) (fun k e => ?_) (fun k e => ?_) hd13 (by omega) ?_
                · obtain ⟨_, c, hc⟩ := own_cells HGO.out k e
                  exact row_ne hc HE13.out (by decide)
                · obtain ⟨_, c, hc⟩ := own_cells HGO.out k e
                  exact row_ne hc HE10.out (by decide)
                · obtain ⟨_, c, hc⟩ := own_cells HGO.out k e
                  exact row_ne hc HRP.out (by decide)
                · intro y97 y98 y99 y100 y101 y102 y103 y104 y105 y106 y107 y108 y109 y110 g cap W5 ho5 hg5 hat5 hlt5
                  have hput := HI2.out.put HY1.out HYL.out hlt2 (v2 := .slice (some ⟨g, 0, none⟩) (y.2.2.2.2.length + 1) cap) (u := x) ho5 (by rw [hgv]; exact hg5) (by omega) (by omega)
                  exact ⟨((below_others hb').trans hput.2.2).from _, (KeepsQ.below hb').trans hput.2.1, _, _, _, _, hput.1⟩
            · have hpe : p = l.length := Nat.le_antisymm hI.dl.le (by omega)
              subst hpe
              refine doc_reg18_off (n := l.length) (cL := a4) (Av := A4) q9 q13 (Nat.le_refl _) ?_
              intro y69 y70 y71 y72 y73 y74 y75 y76 y77 y78 y79 y80 y81 y82 y83 y84 y85 y86 y87 W' hb'
              dsimp only
              have hI2 := hI.grow hb'
              have HI2 := Lib.hid hI2
              have n13 := hI2.rp.cell (i := 0) (v := .int .i64 l.length) rfl
              have t10 := hI2.rd.cell (i := 1) (v := .string ⟨#[]⟩) rfl
              have u10 := hI2.rd.free 1
              have n9 := (H9.out.below hI2.below (by rw [hz0]; omega)).cell (i := 0) (v := .slice A4 l.length a4) rfl
              clear q9 q10 q13 hI2 hI hpre
              gi_wp2_with fail
              refine ⟨((below_others hb').trans (KeepsOthers.setCell _ _ _)).from _, rfl, ?_⟩
              exact HI2.out.stop HPRE.out HNUM.out HSP.out.symm (by omega)
          case done =>
            rintro D W hD ⟨p, base, ps, pv, h⟩ hK
            exact absurd rfl (h.dl.more HNUM.out)
          case stop =>
            subst ha0
            rintro D c pre W hD ⟨rfl, h⟩ gK
            have hw0 : w.heap.size < w0.heap.size := HR0.out.lt
            have hr2 : Row W w.heap.size 40 #[.slice none 0 0, .string ⟨#[]⟩] := HR0.out.below h.parts_below hw0
            obtain ⟨A9, c9, hr9, -, hbW⟩ := h.parts HST0.out
            obtain ⟨A9', c9', hr9', hparts, -⟩ := h.store (by decide) (by decide) (u0 := .slice A9 l.length c9) (u1 := .string ⟨((gapsF text 0 toks).getLastD []).toArray⟩) HST0.out HSP.out.symm (parse_formed HP.out) hr2 (fun s e => by cases e)
            obtain ⟨rfl, rfl⟩ : A9 = A9' ∧ c9 = c9' := by
              have := (show W.heap[w3.heap.size + 1]? = _ from hr9).symm.trans (show W.heap[w3.heap.size + 1]? = _ from hr9')
              simp at this
              exact this
            obtain ⟨tl, htl⟩ : ∃ tl, (gapsF text 0 toks).getLastD [] = tl := ⟨_, rfl⟩
            obtain ⟨pl, hpl⟩ : ∃ pl, partsF l (gapsF text 0 toks) = pl := ⟨_, rfl⟩
            have hd := HD.out
            rw [htl, hpl] at hd
            rw [htl] at hr9 hparts
            rw [hpl] at hparts
            have q0 := hr9.cell (i := 0) (v := .slice A9 l.length c9) rfl
            have q1 := hr9.cell (i := 1) (v := .string ⟨tl.toArray⟩) rfl
            have c0 := hr2.cell (i := 0) (v := .slice none 0 0) rfl
            have c1 := hr2.cell (i := 1) (v := .string ⟨#[]⟩) rfl
            have f0 := hr2.free 0
            have f1 := hr2.free 1
            have HD2 := Lib.hid hd
            have HPA := Lib.hid hparts
            have HBW := Lib.hid hbW
            clear hr9 hr9' h hd hparts hbW htl hpl
            gi_wp2
            obtain ⟨W5, hW5⟩ : ∃ W5, W5 = (W.setCell ⟨w.heap.size, 0, none⟩ (.slice A9 l.length c9)).setCell ⟨w.heap.size, 1, none⟩ (.string ⟨tl.toArray⟩) := ⟨_, rfl⟩
            rw [← hW5]
            have g2 : Row W5 w.heap.size 40 #[.slice A9 l.length c9, .string ⟨tl.toArray⟩] := by rw [hW5]; exact (hr2.set 0 _).set 1 _
            have gK5 : W5.heap[D]? = some (.deferred (some [])) := by rw [hW5]; exact ((KeepsOthers.setCell _ _ _).trans (KeepsOthers.setCell _ _ _)).same D _ gK rfl
            have hB5 : Below w.heap.size w W5 := by rw [hW5]; exact (((then_ HB0.out HBW.out).setCell (p := ⟨w.heap.size, 0, none⟩) (Nat.le_refl _) _).setCell (p := ⟨w.heap.size, 1, none⟩) (Nat.le_refl _) _)
            have hP5 : PartsT W5 62 (.slice A9 l.length c9) pl := by rw [hW5]; exact HPA.out
            clear hW5 q0 q1 c0 c1 f0 f1 hr2 gK
            refine ⟨by simp, .inl ⟨_, _, rfl, run_takeDeferred gK5, ?_⟩⟩
            have T0 := Turn.putObj (ok := okCall fun _ => False) (B := W4.heap.size) (.deferred none) gK5 (by omega) (.inl rfl)
            have d0 := (g2.turn T0 (.inl (by omega))).cell (i := 0) (v := .slice A9 l.length c9) rfl
            have d1 := (g2.turn T0 (.inl (by omega))).cell (i := 1) (v := .string ⟨tl.toArray⟩) rfl
            refine ⟨.tuple #[.agg #[.slice A9 l.length c9, .string ⟨tl.toArray⟩], .int .i64 0, .int .i64 0], by simp [results, Tryd.f19, go_sem, d0, d1], ?_⟩
            rw [HD2.out]
            exact ⟨.slice A9 l.length c9, rfl, hP5.put _ gK5, below_turn hB5 T0 (Nat.le_refl _) (by omega)⟩
    · have e2 : (pe != 0) = true := by simpa using hpe
      have hr3 := HR3.out
      have c0 := (hr3.alloc (.cells #[.slice A4 l.length a4] 23)).cell (i := 0) rfl
      have c1 := (hr3.alloc (.cells #[.slice A4 l.length a4] 23)).cell (i := 1) rfl
      have f0 := (hr3.alloc (.cells #[.slice A4 l.length a4] 23)).free 0
      have f1 := (hr3.alloc (.cells #[.slice A4 l.length a4] 23)).free 1
      have d0 := (((hr3.alloc (.cells #[.slice A4 l.length a4] 23)).set 0 (.slice none 0 0)).set 1 (.string ⟨#[]⟩)).cell (i := 0) (v := .slice none 0 0) rfl
      have d1 := (((hr3.alloc (.cells #[.slice A4 l.length a4] 23)).set 0 (.slice none 0 0)).set 1 (.string ⟨#[]⟩)).cell (i := 1) (v := .string ⟨#[]⟩) rfl
      by_cases hat : toks.length ≤ at_
      · have e3 : decide ((toks.length : Int) ≤ (at_ : Int)) = true := decide_eq_true (by omega)
        have e4 : decide (toks.length ≤ at_) = true := decide_eq_true (by omega)
        have HD : Hid (docS text = ([], [], text.length, pe)) := Lib.hid (by
          unfold docS
          rw [HS.out]
          dsimp only
          rw [if_neg (by simp), HP.out]
          dsimp only
          rw [if_pos hpe, List.getElem?_eq_none hat])
        clear hr3
        gi_wp2
        refine ⟨.tuple #[.agg #[.slice none 0 0, .string ⟨#[]⟩], .int .i64 (text.length : Nat), .int .i64 pe], by simp [results, Tryd.f19, go_sem, d0, d1], ?_⟩
        rw [HD.out]
        exact ⟨.slice none 0 0, rfl, PartsT.nil _ _, ((new_ (then_ HB1.out HB3.out) _).setCell (p := ⟨w.heap.size, 0, none⟩) (Nat.le_refl _) _).setCell (p := ⟨w.heap.size, 1, none⟩) (Nat.le_refl _) _⟩
      · have e3 : decide ((toks.length : Int) ≤ (at_ : Int)) = false := decide_eq_false (by omega)
        have e4 : decide (toks.length ≤ at_) = false := decide_eq_false (by omega)
        obtain ⟨t, ht⟩ : ∃ t, toks[at_]? = some t := ⟨_, List.getElem?_eq_getElem (by omega)⟩
        have HD : Hid (docS text = ([], [], t.2, pe)) := Lib.hid (by
          unfold docS
          rw [HS.out]
          dsimp only
          rw [if_neg (by simp), HP.out]
          dsimp only
          rw [if_pos hpe, ht])
        have hR0 := hr3.alloc (.cells #[.slice A4 l.length a4] 23)
        have hT1 : ToksAt (w3.alloc (.cells #[.slice A4 l.length a4] 23)) (.slice A1 toks.length a1) toks := (HT.out.below HB3.out).below (new_ (Below.refl _ _) _)
        have hY1 : TyB (w3.alloc (.cells #[.slice A4 l.length a4] 23)) 85 (.slice A1 toks.length a1) := (HY.out.below HB3.out).below (new_ (Below.refl _ _) _)
        have hT2 : ToksAt _ (.slice A1 toks.length a1) toks := Rds.store hT1 hY1 hR0 (by decide) (i := 0) (.slice none 0 0)
        have hY2 := hY1.store hR0 (by decide) (i := 0) (.slice none 0 0)
        have hT3 : ToksAt _ (.slice A1 toks.length a1) toks := Rds.store hT2 hY2 (hR0.set 0 _) (by decide) (i := 1) (.string ⟨#[]⟩)
        obtain ⟨b, o, rfl, ga, gb, gc⟩ : ∃ b o, A1 = some ⟨b, o, none⟩ ∧ (w3.alloc (.cells #[.slice A4 l.length a4] 23)).cell? ⟨b, o + at_ * 2 + 1, none⟩ = some (.int .i64 (t.2 : Nat)) ∧ ((w3.alloc (.cells #[.slice A4 l.length a4] 23)).setCell ⟨w.heap.size, 0, none⟩ (.slice none 0 0)).cell? ⟨b, o + at_ * 2 + 1, none⟩ = some (.int .i64 (t.2 : Nat)) ∧
            (((w3.alloc (.cells #[.slice A4 l.length a4] 23)).setCell ⟨w.heap.size, 0, none⟩ (.slice none 0 0)).setCell ⟨w.heap.size, 1, none⟩ (.string ⟨#[]⟩)).cell? ⟨b, o + at_ * 2 + 1, none⟩ = some (.int .i64 (t.2 : Nat)) := by
          obtain ⟨A', c', hvv, _, _, hxx⟩ := hT1.open_
          obtain ⟨b, o, hA, -, g1⟩ := hxx at_ _ ht
          obtain ⟨rfl, _, rfl⟩ := (by simpa using hvv : A1 = A' ∧ True ∧ a1 = c')
          subst hA
          obtain ⟨A', c', hvv, _, _, hxx⟩ := hT2.open_
          obtain ⟨b', o', hA, -, g2⟩ := hxx at_ _ ht
          cases hvv
          cases hA
          obtain ⟨A', c', hvv, _, _, hxx⟩ := hT3.open_
          obtain ⟨b', o', hA, -, g3⟩ := hxx at_ _ ht
          cases hvv
          cases hA
          exact ⟨b, o, rfl, g1, g2, g3⟩
        have hlt : at_ < toks.length := by omega
        clear hr3 ht hT1 hT2 hT3 hY1 hY2 hR0 hat
        gi_wp2_with fail
        gi_region
        all_goals gi_wp2
        all_goals
          refine ⟨.tuple #[.agg #[.slice none 0 0, .string ⟨#[]⟩], .int .i64 (t.2 : Nat), .int .i64 pe], by simp [results, Tryd.f19, go_sem, d0, d1], ?_⟩
          rw [HD.out]
          exact ⟨.slice none 0 0, rfl, PartsT.nil _ _, (((new_ (then_ HB1.out HB3.out) _).setCell (p := ⟨w.heap.size, 0, none⟩) (Nat.le_refl _) _).setCell (p := ⟨w.heap.size, 1, none⟩) (Nat.le_refl _) _).drew⟩
  · have e1 : (err != 0) = true := by simpa using herr
    have HD : Hid (docS text = ([], [], off, err)) := Lib.hid (by unfold docS; rw [HS.out]; exact if_pos herr)
    gi_wp2_with fail
    refine ⟨trivial, ?_⟩
    refine (callsIn_wide.2 (strip_own _ text (HM.out.below (new_ (Below.refl _ _) _)))).mono ?_
    rw [HS.out]
    rintro e w1 ⟨v1, v2, rfl, h1, h2, hb⟩
    have hr2 := (Row.new w 40 #[.slice none 0 0, .string ⟨#[]⟩]).below hb (by simp)
    have c0 := hr2.cell (i := 0) rfl
    have c1 := hr2.cell (i := 1) rfl
    have f0 := hr2.free 0
    have f1 := hr2.free 1
    clear h1 h2
    gi_wp2
    have d0 := ((hr2.set 0 (.slice none 0 0)).set 1 (.string ⟨#[]⟩)).cell (i := 0) (v := .slice none 0 0) rfl
    have d1 := ((hr2.set 0 (.slice none 0 0)).set 1 (.string ⟨#[]⟩)).cell (i := 1) (v := .string ⟨#[]⟩) rfl
    refine ⟨.tuple #[.agg #[.slice none 0 0, .string ⟨#[]⟩], .int .i64 off, .int .i64 err], by simp [results, Tryd.f19, go_sem, d0, d1], ?_⟩
    rw [HD.out]
    exact ⟨.slice none 0 0, rfl, PartsT.nil _ _, (((new_ (Below.refl _ _) _).trans (hb.mono (by simp))).setCell (p := ⟨w.heap.size, 0, none⟩) (Nat.le_refl _) _).setCell (p := ⟨w.heap.size, 1, none⟩) (Nat.le_refl _) _⟩
theorem doc_read (w : World) (text : List UInt8) (hM : MaxAt w) (hn : text.length ≤ 1000000) (hF : FormsAt w) :
    Calls Tryd.prog 19 #[.string ⟨text.toArray⟩] w (DocPost w (docS text)) :=
  (doc_read_t w text hM hn hF).mono fun _ _ h => h.post
end Go.Proofs.YtpmbfcogkoiogaaDoor
end
