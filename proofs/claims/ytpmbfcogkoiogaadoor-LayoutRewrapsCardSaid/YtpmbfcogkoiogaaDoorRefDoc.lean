/- The reference's Read: the document of a text. -/
import Derived.Test.YtpmbfcogkoiogaaDoorDocRA
import Derived.Test.YtpmbfcogkoiogaaDoorDocIA
import Derived.Test.YtpmbfcogkoiogaaDoorStripA
import Derived.Test.YtpmbfcogkoiogaaDoorDocTA
import Derived.Test.YtpmbfcogkoiogaaDoorLayWordsA
import Derived.BigRegion
namespace Go.Proofs.YtpmbfcogkoiogaaDoor
open Go.RowKit
theorem infoRPart : (Tryd.prog.info? 90).map (fun i => (i.zero, i.size, i.bytes)) = some (some (.agg #[.int .i64 0, .string ⟨#[]⟩, .slice none 0 0, .slice none 0 0, .slice none 0 0]), 5, 96) := by kernel_rfl
theorem numW_take (l : List StmD) (i : Nat) : numW (l.take i) ≤ numW l := by
  conv => rhs; rw [← List.take_append_drop i l]
  unfold numW
  rw [List.flatMap_append, List.length_append]
  omega
/-- between two statements of the reference -/
structure RefI (w0 : World) (g11 : Nat) (l : List StmD) (sp : List StmP) (text : List UInt8) (toks : List TokD) (i k fr : Nat) (ps : List PartP) (pv : Value) (W : World) : Prop where
  rd : Row W g11 45 #[pv, .string ⟨#[]⟩]
  own : W.ownsRow (g11 + 1) 90 5 pv i (ps.flatMap partCells)
  sp : ps.map (fun x => (x.1, x.2.1, x.2.2.1)) = sp.take i
  gp : ∀ x ∈ ps, (∃ b, W.ownsRow b 9 1 x.2.2.2.1 x.2.2.2.2.length (strC x.2.2.2.2)) ∧ x.2.2.2.2.length = (wordsS x.1).length
  pre : ∃ pre, gapsF text 0 toks = pre ++ gapsF text fr (toks.drop k) ∧ pre = (ps.map (·.2.2.2.2)).flatten ∧ pre.length = k
  fr : GapFrom text (toks.drop k) fr
  kn : k = numW (l.take i)
  below : Below w0.heap.size w0 W
/-- between two gaps of a statement -/
structure RefJ (w3 wr : World) (x : StmD) (tv pw : Value) (text : List UInt8) (toks : List TokD) (k : Nat) (G0 : List (List UInt8)) (k' fr m : Nat) (gs : List (List UInt8)) (gv : Value) (W : World) : Prop where
  row : Row W wr.heap.size 90 #[.int .i64 x.kind, .string ⟨x.label.toArray⟩, tv, pw, gv]
  own : W.ownsRow (wr.heap.size + 1) 9 1 gv gs.length (strC gs)
  sum : m + gs.length = (wordsS x).length
  kk : k' = k + gs.length
  gf : GapFrom text (toks.drop k') fr
  pre : ∃ pre, gapsF text 0 toks = pre ++ gapsF text fr (toks.drop k') ∧ pre = G0 ++ gs ∧ True
  below : Below wr.heap.size wr W
theorem RefJ.grow {w3 wr W W' : World} {x : StmD} {tv pw gv : Value} {text : List UInt8} {toks : List TokD} {k k' fr m : Nat} {G0 gs : List (List UInt8)} (h : RefJ w3 wr x tv pw text toks k G0 k' fr m gs gv W) (hb : Below W.heap.size W W') : RefJ w3 wr x tv pw text toks k G0 k' fr m gs gv W' :=
  ⟨h.row.below hb h.row.lt, own_below h.own hb, h.sum, h.kk, h.gf, h.pre, h.below.trans (hb.mono h.below.size)⟩
theorem RefJ.put {w3 wr W w6 : World} {x : StmD} {tv pw gv V7 : Value} {text : List UInt8} {toks : List TokD} {k k' fr m : Nat} {G0 gs : List (List UInt8)} {t : TokD} (h : RefJ w3 wr x tv pw text toks k G0 k' fr m gs gv W) (hb : Below W.heap.size W w6)
    (ho : w6.ownsRow W.heap.size 9 1 V7 (gs.length + 1) (strC gs ++ [.string ⟨((text.take t.2).drop fr).toArray⟩])) (hd : toks.drop k' = t :: toks.drop (k' + 1)) (hm : 0 < m) :
    RefJ w3 wr x tv pw text toks k G0 (k' + 1) (t.2 + t.1.length) (m - 1) (gs ++ [(text.take t.2).drop fr]) V7 (w6.setCell ⟨wr.heap.size, 4, none⟩ V7) := by
  have hz := h.below.size
  have hlt := h.row.lt
  have hr6 := h.row.below hb hlt
  have hf := h.gf
  rw [hd] at hf
  obtain ⟨pre, h1, h2, _⟩ := h.pre
  refine ⟨hr6.set 4 _, ?_, by have := h.sum; simp; omega, by have := h.kk; simp; omega, hf.next, ⟨pre ++ [(text.take t.2).drop fr], ?_, by rw [h2]; simp, trivial⟩, ?_⟩
  · have h3 := own_store (own_lower ho (b2 := wr.heap.size + 1) (by omega)) hr6 (by decide) 4 V7
    simpa [strC] using h3
  · rw [h1, hd, gapsF]
    simp
  · exact (h.below.trans (hb.mono hz)).setCell (p := ⟨wr.heap.size, 4, none⟩) (Nat.le_refl _) _
/-- a part is appended -/
theorem RefI.put {w3 wr W w7 : World} {g11 i k k' fr fr' c9 c6 : Nat} {A9 A6 : Option Addr} {l : List StmD} {sp : List StmP} {text : List UInt8} {toks : List TokD} {ps : List PartP} {x : StmD} {tv pw v' : Value} {gs : List (List UInt8)} {o : Obj}
    (hg11 : w3.heap.size ≤ g11) (h : RefI w3 g11 l sp text toks i k fr ps (.slice A9 i c9) wr) (hj : RefJ w3 wr x tv pw text toks k ((ps.map (·.2.2.2.2)).flatten) k' fr' 0 gs (.slice A6 gs.length c6) W) (hx : l[i]? = some x) (hp : sp[i]? = some (x, tv, pw)) {L : List Value} (hL : L = ps.flatMap partCells)
    (ho : w7.ownsRow (g11 + 1) 90 5 v' (i + 1) (L ++ [.int .i64 x.kind, .string ⟨x.label.toArray⟩, tv, pw, .slice A6 gs.length c6])) (hg : (W.alloc o).grownBy w7 (Value.slice A9 i c9).ownBlock) :
    (∃ A c, v' = .slice A (i + 1) c) ∧ w7.cell? ⟨g11, 0, none⟩ = some (.slice A9 i c9) ∧ w7.frozen? ⟨g11, 0, none⟩ = false ∧
    RefI w3 g11 l sp text toks (i + 1) k' fr' (ps ++ [(x, tv, pw, .slice A6 gs.length c6, gs)]) v' (w7.setCell ⟨g11, 0, none⟩ v') := by
  subst hL
  have hW := h.below.size
  obtain ⟨A, c, rfl, _⟩ := own_form ho
  have hO := ca_own_alloc (own_below h.own hj.below) o
  have hcc := own_cells hO
  have hne : ∀ (k : Nat) (c : Array Value) (t : TypeId) (fr : Nat × Nat), (W.alloc o).heap[k]? = some (Obj.cells c t fr) → t ≠ 90 → w7.heap[k]? = some (Obj.cells c t fr) := fun k c t fr hk ht =>
    (hg.block k (Array.getElem?_eq_some_iff.1 hk).1 fun e => by
      obtain ⟨_, c', hc'⟩ := hcc k e.symm
      rw [hk] at hc'
      cases hc'
      exact ht rfl).trans hk
  have hbA : Below wr.heap.size wr (W.alloc o) := new_ hj.below o
  have hr1 : Row w7 g11 45 #[.slice A9 i c9, .string ⟨#[]⟩] := hne _ _ _ _ (h.rd.below hbA h.rd.lt) (by decide)
  have hgo : ∀ b (v : Value) n xs, (W.alloc o).ownsRow b 9 1 v n xs → (w7.setCell ⟨g11, 0, none⟩ (.slice A (i + 1) c)).ownsRow b 9 1 v n xs := fun b v n xs hh =>
    own_store (own_keep hh fun k e => by
      obtain ⟨_, c', hc'⟩ := own_cells hh k e
      exact (hne _ _ _ _ hc' (by decide)).trans hc'.symm) hr1 (by decide) _ _
  have hw : (wordsS x).length = gs.length := by have := hj.sum; omega
  refine ⟨⟨A, c, rfl⟩, hr1.cell (i := 0) rfl, hr1.free 0, ⟨hr1.set 0 _, ?_, ?_, fun y hy => ?_, ?_, hj.gf, ?_, ?_⟩⟩
  · have h1 := own_store ho hr1 (by decide) 0 (.slice A (i + 1) c)
    rw [List.flatMap_append]
    exact h1
  · rw [List.map_append, h.sp, take_snoc hp]
    rfl
  · rcases List.mem_append.1 hy with hy | hy
    · obtain ⟨⟨b, hb⟩, h2⟩ := h.gp y hy
      exact ⟨⟨b, hgo _ _ _ _ (own_below hb hbA)⟩, h2⟩
    · simp at hy
      subst hy
      exact ⟨⟨_, hgo _ _ _ _ (ca_own_alloc hj.own o)⟩, hw.symm⟩
  · obtain ⟨pre, h1, h2, _⟩ := hj.pre
    refine ⟨pre, h1, by rw [h2]; simp, ?_⟩
    obtain ⟨p0, _, h4, h5⟩ := h.pre
    rw [h2, List.length_append, ← h4, h5, hj.kk]
  · rw [take_snoc hx]
    unfold numW
    rw [List.flatMap_append, List.length_append]
    have := h.kn
    unfold numW at this
    rw [← this]
    simp [hw, hj.kk]
  · have h1 := (then_ h.below hj.below)
    refine ((new_ h1 o).grown hg (by have := (new_ h1 o).size; exact this) fun j e => ?_).setCell (p := ⟨g11, 0, none⟩) ?_ _
    · have := (hcc j e).1
      have := hg11
      omega
    · exact hg11
theorem RefI.last {w3 W : World} {g11 k fr : Nat} {l : List StmD} {sp : List StmP} {text : List UInt8} {toks : List TokD} {ps : List PartP} {pv : Value} (h : RefI w3 g11 l sp text toks l.length k fr ps pv W) (hn : numW l = toks.length) : (gapsF text 0 toks).getLastD [] = text.drop fr := by
  obtain ⟨pre, h1, h2, h3⟩ := h.pre
  have hk : k = toks.length := by rw [h.kn, List.take_length, hn]
  rw [h1, hk, List.drop_length, gapsF]
  simp
/-- all statements have been dealt with -/
theorem RefI.done {w3 W : World} {g11 k fr : Nat} {l : List StmD} {sp : List StmP} {text : List UInt8} {toks : List TokD} {ps : List PartP} {pv : Value} (h : RefI w3 g11 l sp text toks l.length k fr ps pv W) (hsp : sp.map (·.1) = l) (hn : numW l = toks.length) (hg : w3.heap.size ≤ g11) :
    RdX 45 90 w3 g11 l sp (gapsF text 0 toks) (W.setCell ⟨g11, 1, none⟩ (.string ⟨(text.drop fr).toArray⟩)) := by
  obtain ⟨A, c, rfl, _⟩ := own_form h.own
  have hlast := h.last hn
  obtain ⟨pre, h1, h2, h3⟩ := h.pre
  have hk : k = toks.length := by rw [h.kn, List.take_length, hn]
  have hsl : sp.length = l.length := by rw [← hsp, List.length_map]
  have hps : ps.map (fun x => (x.1, x.2.1, x.2.2.1)) = sp := by rw [h.sp, ← hsl, List.take_length]
  have hl : ps.map (·.1) = l := by rw [← hsp, ← hps, List.map_map]; rfl
  have hlen : ps.length = l.length := by rw [← hl, List.length_map]
  refine ⟨ps, A, c, ?_, own_store h.own h.rd (by decide) _ _, ?_, hps, fun x hx => ?_, h.below.setCell (p := ⟨g11, 1, none⟩) hg _⟩
  · rw [hlast]
    exact h.rd.set 1 _
  · rw [h1, h2, partsF_zip _ l (ps.map (·.2.2.2.2)) (by rw [List.length_map, hlen]) fun i x g hx hg => ?_]
    · conv => rhs; rw [← hl]
      rw [List.zip_map', List.map_inj_left]
      intro x _
      rfl
    · rw [List.getElem?_map] at hg
      obtain ⟨y, hy, rfl⟩ := Option.map_eq_some_iff.1 hg
      rw [← hl, List.getElem?_map, hy] at hx
      cases hx
      exact (h.gp y (List.mem_of_getElem? hy)).2
  · obtain ⟨⟨b, hb⟩, _⟩ := h.gp x hx
    exact ⟨b, own_store hb h.rd (by decide) _ _⟩
set_option maxRecDepth 100000 in
set_option maxHeartbeats 16000000 in
theorem ref_doc_t (w : World) (text : List UInt8) (hn : text.length ≤ 1000000) :
    Calls Tryd.prog 20 #[.string ⟨text.toArray⟩] w (DocPostT 90 w (docS text)) := by
  obtain ⟨⟨toks, coms, off, err⟩, hs⟩ : ∃ r, stripS text = r := ⟨_, rfl⟩
  have HS := Lib.hid hs
  have hg := strip_gaps text
  rw [hs] at hg
  have HG := Lib.hid hg
  clear hs hg
  by_cases herr : err = 0
  · subst herr
    have e1 : ((0 : Int) != 0) = false := rfl
    obtain ⟨⟨l, at_, pe⟩, hp⟩ : ∃ r, parseS (toks.map (·.1)) = r := ⟨_, rfl⟩
    have HP := Lib.hid hp
    have hlen := HG.out.2.2
    dsimp only at hlen
    clear hp
    go_enter Tryd.func20, Tryd.ntmps20
    go_wp2_with fail
    refine (ref_strip_own _ text).mono ?_
    rw [HS.out]
    rintro e w1 ⟨v1, v2, rfl, h1, h2, hb⟩
    have hr2 := (Row.new w 45 #[.slice none 0 0, .string ⟨#[]⟩]).below hb (by simp)
    have HT : Hid (ToksAt w1 v1 toks) := Lib.hid (Rds.of_own h1)
    have HY := Lib.hid (TyB.of_own h1)
    have HB1 := Lib.hid ((new_ (Below.refl _ w) (.cells #[.slice none 0 0, .string ⟨#[]⟩] 45)).trans (hb.mono (by simp)))
    obtain ⟨A1, a1, rfl, -⟩ := HT.out.open_
    have HR2 := Lib.hid hr2
    clear h1 h2 hb hr2
    go_wp2_with fail
    refine (ref_texts _ _ toks HT.out hlen).mono ?_
    rintro e w2 ⟨v3, rfl, hv3, hb2⟩
    have HV3 := Lib.hid hv3
    have HB2 := Lib.hid hb2
    obtain ⟨A3, a3, rfl, -⟩ := hv3.open_
    replace HV3 : Hid (Strs w2 (.slice A3 toks.length a3) (toks.map (·.1))) := Lib.hid (by have h := HV3.out; rwa [List.length_map] at h)
    rw [List.length_map]
    clear hv3 hb2
    go_wp2_with fail
    refine (ref_parse _ _ _ HV3.out (fun u hu => by
      obtain ⟨t, ht, rfl⟩ := List.mem_map.1 hu
      have := HG.out.2.1 t ht
      unfold maxLen
      omega)).mono ?_
    rw [HP.out]
    rintro e w3 ⟨v4, rfl, hv4, hb3⟩
    dsimp only at hv4
    obtain ⟨A4, a4, rfl, -⟩ := Stms.open_ hv4
    obtain ⟨sp, hsp, hrd, hst⟩ := hv4
    have HSP := Lib.hid hsp
    have HRD := Lib.hid hrd
    have HST := Lib.hid hst
    have HB3 := Lib.hid (then_ HB2.out hb3)
    have HR3 := Lib.hid (HR2.out.below HB3.out HR2.out.lt)
    clear hsp hrd hst hb3 HR2
    by_cases hpe : pe = 0
    · subst hpe
      have e2 : ((0 : Int) != 0) = false := rfl
      have hd : docS text = (partsF l (gapsF text 0 toks), (gapsF text 0 toks).getLastD [], 0, 0) := by
        unfold docS
        rw [HS.out]
        dsimp only
        rw [if_neg (by simp), HP.out]
        dsimp only
        rw [if_neg (by simp)]
      have HD := Lib.hid hd
      have hnw : numW l = toks.length := by unfold numW; rw [parse_words HP.out, List.length_map]
      have HFN := Lib.hid (parse_fine HP.out)
      have hll : l.length ≤ 8000 := by have h1 := numW_ge l; omega
      have hsl : sp.length = l.length := by rw [HSP.out, List.length_map]
      have HT0 := Lib.hid (HT.out.below HB3.out)
      have HY0 := Lib.hid (HY.out.below HB3.out)
      have HB0 := Lib.hid (then_ HB1.out HB3.out)
      have HI0 : Hid (RefI w3 w3.heap.size l sp text toks 0 0 0 [] (.slice none 0 0) (w3.alloc (.cells #[.slice none 0 0, .string ⟨#[]⟩] 45))) := Lib.hid ⟨Row.new _ _ _, own_nil _ _ _ _, rfl, fun x hx => (nomatch hx), ⟨[], rfl, rfl, rfl⟩, ⟨Nat.zero_le _, fun t ht => ⟨Nat.zero_le _, HG.out.2.1 t ht⟩, HG.out.1⟩, rfl, new_ (Below.refl _ _) _⟩
      clear hd HT HY HV3
      go_wp2_with fail
      go_loopw [12, 13, 14] (fun fv kv iv wr => ∃ (i k fr : Nat) (ps : List PartP) (pv : Value), fv = .int .i64 fr ∧ kv = .int .i64 k ∧ iv = .int .i64 i ∧ i ≤ l.length ∧ RefI w3 w3.heap.size l sp text toks i k fr ps pv wr) (fun _ _ iv _ => l.length - (intOf iv).toNat)
      case atStart => exact ⟨0, 0, 0, [], _, rfl, rfl, rfl, Nat.zero_le _, HI0.out⟩
      case round =>
        obtain ⟨wo, rfl⟩ : ∃ wo, wo = wr := ⟨_, rfl⟩
        obtain ⟨i, k, fr, ps, pv, rfl, rfl, rfl, hi, hI⟩ := hrel
        have HI := Lib.hid hI
        have hzb := hI.below.size
        by_cases hlt : i < l.length
        · have e3 : decide ((i : Int) < (l.length : Int)) = true := decide_eq_true (by omega)
          obtain ⟨p, hp⟩ : ∃ p, sp[i]? = some p := ⟨_, List.getElem?_eq_getElem (by omega)⟩
          obtain ⟨x, tv, pw⟩ := p
          obtain ⟨hs1, hs2⟩ := HST.out _ (List.mem_of_getElem? hp)
          obtain ⟨T1, d1, ht1, -⟩ := hs1.open_
          obtain ⟨T2, d2, ht2, -⟩ := hs2.open_
          dsimp only at ht1 ht2
          subst ht1 ht2
          obtain ⟨b, o, rfl, g0, g1, g2, g3⟩ := stm_cells (HRD.out.below hI.below) hp
          dsimp only at g0 g1 g2 g3
          have hxl : l[i]? = some x := by rw [HSP.out, List.getElem?_map, hp]; rfl
          have HX := Lib.hid hxl
          have HPX := Lib.hid hp
          obtain ⟨f1, f2, f3, f4⟩ := HFN.out x (List.mem_of_getElem? hxl)
          rw [List.length_map] at f2 f3
          have HF := Lib.hid (And.intro f1 f4)
          have HS1 := Lib.hid (Strs.below hs1 hI.below)
          have HS2 := Lib.hid (Strs.below hs2 hI.below)
          have hk1 : numW (l.take (i + 1)) = k + (wordsS x).length := by rw [take_snoc hxl, hI.kn]; unfold numW; rw [List.flatMap_append]; simp
          have hk2 : numW (l.take (i + 1)) ≤ toks.length := by rw [← hnw]; exact numW_take l _
          have k0 := cell_alloc_far (o := .cells #[.int .i64 x.kind, .string ⟨x.label.toArray⟩, .slice T1 x.text.length d1, .slice T2 x.proof.length d2, .slice none 0 0] 90) (cell_lt g0)
          have k1 := cell_alloc_far (o := .cells #[.int .i64 x.kind, .string ⟨x.label.toArray⟩, .slice T1 x.text.length d1, .slice T2 x.proof.length d2, .slice none 0 0] 90) (cell_lt g1)
          have k2 := cell_alloc_far (o := .cells #[.int .i64 x.kind, .string ⟨x.label.toArray⟩, .slice T1 x.text.length d1, .slice T2 x.proof.length d2, .slice none 0 0] 90) (cell_lt g2)
          have k3 := cell_alloc_far (o := .cells #[.int .i64 x.kind, .string ⟨x.label.toArray⟩, .slice T1 x.text.length d1, .slice T2 x.proof.length d2, .slice none 0 0] 90) (cell_lt g3)
          rw [g0] at k0
          rw [g1] at k1
          rw [g2] at k2
          rw [g3] at k3
          clear hs1 hs2 hp hxl hI f1 f4
          go_wp2_with fail
          refine (ref_words _ x _ _ (Strs.below HS1.out (new_ (Below.refl _ _) _)) (Strs.below HS2.out (new_ (Below.refl _ _) _)) HF.out.1 HF.out.2 (by omega) (by omega)).mono ?_
          rintro e w5 ⟨v5, rfl, hv5, hb5⟩
          obtain ⟨A5, c5, rfl, -⟩ := hv5.open_
          have HR5 := Lib.hid ((Row.new wo 90 #[.int .i64 x.kind, .string ⟨x.label.toArray⟩, .slice T1 x.text.length d1, .slice T2 x.proof.length d2, .slice none 0 0]).below hb5 (by simp))
          have HB5 := Lib.hid ((new_ (Below.refl _ wo) (.cells #[.int .i64 x.kind, .string ⟨x.label.toArray⟩, .slice T1 x.text.length d1, .slice T2 x.proof.length d2, .slice none 0 0] 90)).trans (hb5.mono (by simp)))
          clear hv5 hb5 g0 g1 g2 g3 k0 k1 k2 k3
          go_wp2_with fail
          go_loopw [12, 13, 16] (fun fv kv nv wq => ∃ (k' fr' m : Nat) (gs : List (List UInt8)) (gv : Value), fv = .int .i64 fr' ∧ kv = .int .i64 k' ∧ nv = .int .i64 m ∧ RefJ w3 wo x (.slice T1 x.text.length d1) (.slice T2 x.proof.length d2) text toks k ((ps.map (·.2.2.2.2)).flatten) k' fr' m gs gv wq) (fun _ _ nv _ => (intOf nv).toNat)
          case atStart =>
            obtain ⟨pre, h1, h2, h3⟩ := HI.out.pre
            exact ⟨k, fr, (wordsS x).length, [], _, rfl, rfl, rfl, HR5.out, own_nil _ _ _ _, by simp, rfl, HI.out.fr, ⟨pre, h1, by simpa using h2⟩, HB5.out⟩
          case round =>
            obtain ⟨k', fr', m, gs, gv, rfl, rfl, rfl, hJ⟩ := hrel
            have HJ := Lib.hid hJ
            obtain ⟨A6, c6, rfl, -⟩ := own_form hJ.own
            have hm8 : m ≤ 8000 := by have h1 := hJ.sum; omega
            by_cases hm : 0 < m
            · have e4 : decide ((0 : Int) < (m : Int)) = true := decide_eq_true (by omega)
              have e5 : decide (0 < m) = true := decide_eq_true hm
              have hk3 : k' < toks.length := by have h1 := hJ.sum; have h2 := hJ.kk; omega
              obtain ⟨t, ht⟩ : ∃ t, toks[k']? = some t := ⟨_, List.getElem?_eq_getElem hk3⟩
              obtain ⟨A', c', hvv, ha1, _, hxx⟩ := (HT0.out.below (then_ HI.out.below hJ.below)).open_
              obtain ⟨bb, oo, hA, q0, q1⟩ := hxx k' _ ht
              obtain ⟨rfl, _, rfl⟩ := (by simpa using hvv : A1 = A' ∧ True ∧ a1 = c')
              subst hA
              have hdt := tdrop ht
              have hf2 := hJ.gf
              rw [hdt] at hf2
              have hi1 := (hf2.2.1 t (by simp)).1
              have hi2 := (hf2.2.1 t (by simp)).2
              have HN := Lib.hid hf2.next
              have HDT := Lib.hid hdt
              have hsl2 := fun wx => run_slice_string (P := Tryd.prog) wx 9 ⟨text.toArray⟩ .i64 .i64 (fr' : Int) (t.2 : Int) Tryd.underlying9 (by omega) (by omega) (by simp [ByteArray.size]; omega)
              simp only [Int.toNat_natCast, bytes_cut] at hsl2
              have hgl : gs.length ≤ 8000 := by have h1 := hJ.sum; omega
              clear hxx hvv ht hdt hf2
              go_wp2_with fail
              refine refdoc_app (u := (text.take t.2).drop fr') HJ.out.row rfl q1 hk3 ha1 hsl2 (Rds.of_own HJ.out.own) (by omega) ?_
              intro w6 V7 V0 V4 V6 x75 x76 x77 x78 x79 x80 x81 x82 x83 x84 x85 x86 x87 x88 x89 hc
              dsimp only
              obtain ⟨A7, c7, rfl, -⟩ := own_form (hc.f7 rfl)
              have hJ2 := HJ.out.put hc.below (hc.f7 rfl) HDT.out hm
              have HJ2 := Lib.hid hJ2
              have hbb : bb ≠ wo.heap.size := TyB.ne (HY0.out.below (then_ HI.out.below HJ2.out.below)) HJ2.out.row (by decide) bb rfl
              have r0 := (cell_set_far (p := ⟨wo.heap.size, 4, none⟩) (.slice A7 (gs.length + 1) c7) hbb).trans (cellB q0 hc.below)
              have r1 := (cell_set_far (p := ⟨wo.heap.size, 4, none⟩) (.slice A7 (gs.length + 1) c7) hbb).trans (cellB q1 hc.below)
              obtain ⟨W8, hW8⟩ : ∃ W8, w6.setCell ⟨wo.heap.size, 4, none⟩ (.slice A7 (gs.length + 1) c7) = W8 := ⟨_, rfl⟩
              rw [hW8] at r0 r1 HJ2 ⊢
              clear hW8 hc hJ2 hsl2 q0 q1 hJ
              go_wp2_with fail
              go_region
              all_goals go_wp2
              all_goals go_roundw
              case rel => exact ⟨k' + 1, t.2 + t.1.length, m - 1, _, _, by go_num, by go_num, by go_num, HJ2.out.grow (Below.refl _ _).drew⟩
              case measure => simp [intOf]; omega
            · obtain rfl : m = 0 := by omega
              have e4 : decide ((0 : Int) < 0) = false := rfl
              have q0 := hJ.row.cell (i := 0) (v := .int .i64 x.kind) rfl
              have q1 := hJ.row.cell (i := 1) (v := .string ⟨x.label.toArray⟩) rfl
              have q2 := hJ.row.cell (i := 2) (v := .slice T1 x.text.length d1) rfl
              have q3 := hJ.row.cell (i := 3) (v := .slice T2 x.proof.length d2) rfl
              have q4 := hJ.row.cell (i := 4) (v := .slice A6 gs.length c6) rfl
              have hr11 := HI.out.rd.below hJ.below HI.out.rd.lt
              obtain ⟨A9, c9, rfl, -⟩ := own_form HI.out.own
              have q5 := hr11.cell (i := 0) (v := .slice A9 i c9) rfl
              have HO := Lib.hid (own_below HI.out.own hJ.below)
              have hzz := hJ.below.size
              obtain ⟨i0, ki, kj0, kj1, kj2⟩ := info_parts infoRPart
              obtain ⟨L, hL⟩ : ∃ L, L = ps.flatMap partCells := ⟨_, rfl⟩
              rw [← hL] at HO
              have HL := Lib.hid hL
              clear hJ hr11 hL
              go_wp2_with (at_builtin; go_loud (refine wpList_append_own _ rfl (.tmp 105) (.tmp 107) 43 rfl (w3.heap.size + 1) 90 i0 (.agg #[.int .i64 0, .string ⟨#[]⟩, .slice none 0 0, .slice none 0 0, .slice none 0 0]) 5 96 Tryd.underlying43 ki kj0 kj1 kj2 rfl (by decide) (.slice A9 i c9) i L rfl (ca_own_alloc HO.out _) ⟨wr.heap.size, 0, none⟩ 1 1 [.int .i64 x.kind, .string ⟨x.label.toArray⟩, .slice T1 x.text.length d1, .slice T2 x.proof.length d2, .slice A6 gs.length c6] rfl rfl (cells_of' _ _ _ _ rfl (by simp)) (by simp [Value.oneCell']) (by unfold maxLen; omega) (by omega) (by simp; omega) ?_; intro v' w7 hown' hgrow _; have HQ := Lib.hid (RefI.put (Nat.le_refl _) HI.out HJ.out HX.out HPX.out HL.out hown' hgrow); clear hown' hgrow; obtain ⟨⟨A', c', rfl⟩, c11, f11, -⟩ := HQ.out))
              go_roundw
              case rel => exact ⟨i + 1, _, _, _, _, rfl, rfl, by go_num, by omega, HQ.out.2.2.2⟩
              case measure => simp [intOf]; omega
        · obtain rfl : i = l.length := by omega
          have hX := RefI.done HI.out HSP.out.symm hnw (Nat.le_refl _)
          obtain ⟨A9, c9, rfl, -⟩ := own_form HI.out.own
          have hi1 := HI.out.fr.1
          have e5 := fun wx => run_slice_string_l (P := Tryd.prog) wx 9 ⟨text.toArray⟩ Tryd.underlying9 .i64 (fr : Int) (by omega) (by simp [ByteArray.size]; omega)
          have hsz : (ByteArray.mk text.toArray).size = text.length := by simp [ByteArray.size]
          simp only [Int.toNat_natCast, bytes_cut, hsz, List.take_length] at e5
          have hr11 := HI.out.rd
          have q1 := hr11.cell (i := 1) (v := .string ⟨#[]⟩) rfl
          have u1 := hr11.free 1
          have p0 := (hr11.set 1 (.string ⟨(text.drop fr).toArray⟩)).cell (i := 0) (v := .slice A9 l.length c9) rfl
          have p1 := (hr11.set 1 (.string ⟨(text.drop fr).toArray⟩)).cell (i := 1) (v := .string ⟨(text.drop fr).toArray⟩) rfl
          have hw0 : w.heap.size < w3.heap.size := HR3.out.lt
          have hr2 : Row (wo.setCell ⟨w3.heap.size, 1, none⟩ (.string ⟨(text.drop fr).toArray⟩)) w.heap.size 45 #[.slice none 0 0, .string ⟨#[]⟩] := HR3.out.below hX.parts_below hw0
          obtain ⟨A9', c9', hr9', hparts, -⟩ := hX.store (by decide) (by decide) (u0 := .slice A9 l.length c9) (u1 := .string ⟨(text.drop fr).toArray⟩) HST.out HSP.out.symm (parse_formed HP.out) hr2 (fun s e => by cases e)
          obtain ⟨rfl, rfl⟩ : A9 = A9' ∧ c9 = c9' := by
            have := (show _ = _ from hr11.set 1 (.string ⟨(text.drop fr).toArray⟩)).symm.trans (show _ = _ from hr9')
            simp at this
            exact this.1
          have c0 := hr2.cell (i := 0) (v := .slice none 0 0) rfl
          have c1 := hr2.cell (i := 1) (v := .string ⟨#[]⟩) rfl
          have f0 := hr2.free 0
          have f1 := hr2.free 1
          have d0 := ((hr2.set 0 (.slice A9 l.length c9)).set 1 (.string ⟨(text.drop fr).toArray⟩)).cell (i := 0) (v := .slice A9 l.length c9) rfl
          have d1 := ((hr2.set 0 (.slice A9 l.length c9)).set 1 (.string ⟨(text.drop fr).toArray⟩)).cell (i := 1) (v := .string ⟨(text.drop fr).toArray⟩) rfl
          have HPA := Lib.hid hparts
          have HBW := Lib.hid hX.parts_below
          have HLAST := Lib.hid (RefI.last HI.out hnw)
          clear hX hr11 hr9' hparts hr2
          go_wp2
          refine bodyPost_ret (v := .tuple #[.agg #[.slice A9 l.length c9, .string ⟨(text.drop fr).toArray⟩], .int .i64 0, .int .i64 0]) (by simp [results, Tryd.results20, go_sem, d0, d1]) rfl ?_
          rw [HD.out]
          refine ⟨.slice A9 l.length c9, ?_, HPA.out, (((then_ HB0.out HBW.out).setCell (p := ⟨w.heap.size, 0, none⟩) (Nat.le_refl _) _).setCell (p := ⟨w.heap.size, 1, none⟩) (Nat.le_refl _) _)⟩
          rw [HLAST.out]
          rfl
    · have e2 : (pe != 0) = true := by simpa using hpe
      have hr3 := HR3.out
      have c0 := hr3.cell (i := 0) rfl
      have c1 := hr3.cell (i := 1) rfl
      have f0 := hr3.free 0
      have f1 := hr3.free 1
      have d0 := ((hr3.set 0 (.slice none 0 0)).set 1 (.string ⟨#[]⟩)).cell (i := 0) (v := .slice none 0 0) rfl
      have d1 := ((hr3.set 0 (.slice none 0 0)).set 1 (.string ⟨#[]⟩)).cell (i := 1) (v := .string ⟨#[]⟩) rfl
      by_cases hat : toks.length ≤ at_
      · have e3 : decide ((toks.length : Int) ≤ (at_ : Int)) = true := decide_eq_true (by omega)
        have e4 : decide (toks.length ≤ at_) = true := decide_eq_true (by omega)
        have HD : Hid (docS text = ([], [], text.length, pe)) := Lib.hid (by
          unfold docS
          rw [HS.out]
          dsimp only
          rw [if_neg (by simp), HP.out]
          dsimp only
          rw [if_pos hpe, List.getElem?_eq_none hat])
        clear hr3
        go_wp2
        refine bodyPost_ret (v := .tuple #[.agg #[.slice none 0 0, .string ⟨#[]⟩], .int .i64 (text.length : Nat), .int .i64 pe]) (by simp [results, Tryd.results20, go_sem, d0, d1]) rfl ?_
        rw [HD.out]
        exact ⟨.slice none 0 0, rfl, PartsT.nil _ _, ((then_ HB1.out HB3.out).setCell (p := ⟨w.heap.size, 0, none⟩) (Nat.le_refl _) _).setCell (p := ⟨w.heap.size, 1, none⟩) (Nat.le_refl _) _⟩
      · have e3 : decide ((toks.length : Int) ≤ (at_ : Int)) = false := decide_eq_false (by omega)
        have e4 : decide (toks.length ≤ at_) = false := decide_eq_false (by omega)
        obtain ⟨t, ht⟩ : ∃ t, toks[at_]? = some t := ⟨_, List.getElem?_eq_getElem (by omega)⟩
        have HD : Hid (docS text = ([], [], t.2, pe)) := Lib.hid (by
          unfold docS
          rw [HS.out]
          dsimp only
          rw [if_neg (by simp), HP.out]
          dsimp only
          rw [if_pos hpe, ht])
        have hT1 : ToksAt w3 (.slice A1 toks.length a1) toks := HT.out.below HB3.out
        have hY1 : TyB w3 85 (.slice A1 toks.length a1) := HY.out.below HB3.out
        have hT2 : ToksAt _ (.slice A1 toks.length a1) toks := Rds.store hT1 hY1 hr3 (by decide) (i := 0) (.slice none 0 0)
        have hY2 := hY1.store hr3 (by decide) (i := 0) (.slice none 0 0)
        have hT3 : ToksAt _ (.slice A1 toks.length a1) toks := Rds.store hT2 hY2 (hr3.set 0 _) (by decide) (i := 1) (.string ⟨#[]⟩)
        obtain ⟨b, o, rfl, ga, gb, gc⟩ : ∃ b o, A1 = some ⟨b, o, none⟩ ∧ w3.cell? ⟨b, o + at_ * 2 + 1, none⟩ = some (.int .i64 (t.2 : Nat)) ∧ (w3.setCell ⟨w.heap.size, 0, none⟩ (.slice none 0 0)).cell? ⟨b, o + at_ * 2 + 1, none⟩ = some (.int .i64 (t.2 : Nat)) ∧
            ((w3.setCell ⟨w.heap.size, 0, none⟩ (.slice none 0 0)).setCell ⟨w.heap.size, 1, none⟩ (.string ⟨#[]⟩)).cell? ⟨b, o + at_ * 2 + 1, none⟩ = some (.int .i64 (t.2 : Nat)) := by
          obtain ⟨A', c', hvv, _, _, hxx⟩ := hT1.open_
          obtain ⟨b, o, hA, -, g1⟩ := hxx at_ _ ht
          obtain ⟨rfl, _, rfl⟩ := (by simpa using hvv : A1 = A' ∧ True ∧ a1 = c')
          subst hA
          obtain ⟨A', c', hvv, _, _, hxx⟩ := hT2.open_
          obtain ⟨b', o', hA, -, g2⟩ := hxx at_ _ ht
          cases hvv
          cases hA
          obtain ⟨A', c', hvv, _, _, hxx⟩ := hT3.open_
          obtain ⟨b', o', hA, -, g3⟩ := hxx at_ _ ht
          cases hvv
          cases hA
          exact ⟨b, o, rfl, g1, g2, g3⟩
        have hlt : at_ < toks.length := by omega
        clear hr3 ht hT1 hT2 hT3 hY1 hY2 hat
        go_wp2_with fail
        go_region
        all_goals go_wp2
        all_goals
          refine bodyPost_ret (v := .tuple #[.agg #[.slice none 0 0, .string ⟨#[]⟩], .int .i64 (t.2 : Nat), .int .i64 pe]) (by simp [results, Tryd.results20, go_sem, d0, d1]) rfl ?_
          rw [HD.out]
          exact ⟨.slice none 0 0, rfl, PartsT.nil _ _, (((then_ HB1.out HB3.out).setCell (p := ⟨w.heap.size, 0, none⟩) (Nat.le_refl _) _).setCell (p := ⟨w.heap.size, 1, none⟩) (Nat.le_refl _) _).drew⟩
  · have e1 : (err != 0) = true := by simpa using herr
    have HD : Hid (docS text = ([], [], off, err)) := Lib.hid (by unfold docS; rw [HS.out]; exact if_pos herr)
    go_enter Tryd.func20, Tryd.ntmps20
    go_wp2_with fail
    refine (ref_strip_own _ text).mono ?_
    rw [HS.out]
    rintro e w1 ⟨v1, v2, rfl, h1, h2, hb⟩
    have hr2 := (Row.new w 45 #[.slice none 0 0, .string ⟨#[]⟩]).below hb (by simp)
    have c0 := hr2.cell (i := 0) rfl
    have c1 := hr2.cell (i := 1) rfl
    have f0 := hr2.free 0
    have f1 := hr2.free 1
    clear h1 h2
    go_wp2
    have d0 := ((hr2.set 0 (.slice none 0 0)).set 1 (.string ⟨#[]⟩)).cell (i := 0) (v := .slice none 0 0) rfl
    have d1 := ((hr2.set 0 (.slice none 0 0)).set 1 (.string ⟨#[]⟩)).cell (i := 1) (v := .string ⟨#[]⟩) rfl
    refine bodyPost_ret (v := .tuple #[.agg #[.slice none 0 0, .string ⟨#[]⟩], .int .i64 off, .int .i64 err]) (by simp [results, Tryd.results20, go_sem, d0, d1]) rfl ?_
    rw [HD.out]
    exact ⟨.slice none 0 0, rfl, PartsT.nil _ _, (((new_ (Below.refl _ _) _).trans (hb.mono (by simp))).setCell (p := ⟨w.heap.size, 0, none⟩) (Nat.le_refl _) _).setCell (p := ⟨w.heap.size, 1, none⟩) (Nat.le_refl _) _⟩
theorem ref_doc (w : World) (text : List UInt8) (hn : text.length ≤ 1000000) :
    Calls Tryd.prog 20 #[.string ⟨text.toArray⟩] w (DocPost w (docS text)) :=
  (ref_doc_t w text hn).mono fun _ _ h => h.post
end Go.Proofs.YtpmbfcogkoiogaaDoor
