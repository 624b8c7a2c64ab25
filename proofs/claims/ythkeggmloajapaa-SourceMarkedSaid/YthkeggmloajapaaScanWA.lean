/- Scan of the program. Strip of the program. -/
import Derived.Test.YthkeggmloajapaaPlainA
import Derived.Test.YthkeggmloajapaaTokA
import Derived.Test.YthkeggmloajapaaBldA
import Derived.WalkMore
import Derived.Deep.LoopGhost
import Derived.Test.YthkeggmloajapaaLawA
import Derived.Lib.IndexMore
section
namespace Go.Proofs.Ythkeggmloajapaa
open Go.RowKit
def tokCells (t : TokD) : List Value := [.string ⟨t.1.toArray⟩, .int .i64 (t.2 : Nat)]
/-- the slice value v reads as the tokens l -/
def ToksAt (w : World) (v : Value) (l : List TokD) : Prop := Rds w 2 v l.length (l.flatMap tokCells)
theorem infoTok : (Try.prog.info? 40).map (fun i => (i.zero, i.size, i.bytes)) = some (some (.agg #[.string ⟨#[]⟩, .int .i64 0]), 2, 24) := by kernel_rfl
theorem clone_str (w : World) (s : List UInt8) (hs : s.length ≤ 281474976710656) :
    Calls Try.prog 29 #[.string ⟨s.toArray⟩] w fun e w' => e = .returned (.string ⟨s.toArray⟩) ∧ Below w.heap.size w w' := by
  go_enter Try.func29, Try.ntmps29
  go_wp2_with (go_at_call 36; refine (Try.stringslite_Clone ⟨s.toArray⟩ _ (by simpa [ByteArray.size] using hs)).mono ?_; rintro e w1 ⟨rfl, hb1⟩)
  go_ret
  exact ⟨rfl, hb1⟩
theorem clone_ba (w : World) (b : ByteArray) (hs : b.size ≤ 281474976710656) :
    Calls Try.prog 29 #[.string b] w fun e w' => e = .returned (.string b) ∧ Below w.heap.size w w' := by
  go_enter Try.func29, Try.ntmps29
  go_wp2_with (go_at_call 36; refine (Try.stringslite_Clone b _ hs).mono ?_; rintro e w1 ⟨rfl, hb1⟩)
  go_ret
  exact ⟨rfl, hb1⟩
theorem cells_at (w : World) (cs : Array Value) (t : TypeId) (l : List Value) (hl : cs.toList = l) : ∀ j u, l[j]? = some u → (w.alloc (.cells cs t)).cell? ((⟨w.heap.size, 0, none⟩ : Addr).add j) = some u := by
  intro j u hu
  subst hl
  rw [addr_add, Nat.zero_add]
  exact (Row.new w t cs).cell (by simpa using hu)
theorem toks_snoc {w : World} {base : Nat} {e : TypeId} {v : Value} {l : List TokD} {t : TokD} {X : List Value} {n : Nat} (h : w.ownsRow base e 2 v (n + 1) (X ++ tokCells t)) (hX : X = l.flatMap tokCells) (hn : n = l.length) :
    w.ownsRow base e 2 v (l ++ [t]).length ((l ++ [t]).flatMap tokCells) := by
  subst hX hn; simpa [List.flatMap_append] using h
/-- between two tokens -/
structure ScAt (s : List UInt8) (i : Nat) (l : List TokD) : Prop where
  le : i ≤ s.length
  all : toks 0 s = l ++ toks i (s.drop i)
  few : l.length ≤ 8000
theorem ScAt.skip {s : List UInt8} {i : Nat} {l : List TokD} (h : ScAt s i l) {b : UInt8} (hb : s[i]? = some b) (hs : sp b = true) : ScAt s (i + 1) l :=
  ⟨(List.getElem?_eq_some_iff.1 hb).1, by rw [h.all, toks_skip hb hs], h.few⟩
theorem ScAt.tok {s : List UInt8} {i e : Nat} {l : List TokD} (h : ScAt s i l) (h1 : i < e) (h2 : e ≤ s.length) (h3 : ∀ j b, i ≤ j → j < e → s[j]? = some b → sp b = false) (h4 : ∀ b, s[e]? = some b → sp b = true) (hl : l.length ≠ 8000) : ScAt s e (l ++ [((s.take e).drop i, i)]) :=
  ⟨h2, by rw [h.all, toks_at h1 h2 h3 h4]; simp, by have := h.few; simp; omega⟩
theorem ScAt.full {s : List UInt8} {i : Nat} {l : List TokD} (h : ScAt s i l) {b : UInt8} (hb : s[i]? = some b) (hs : sp b = false) (hl : l.length = 8000) (h0 : ¬ 40000 < s.length) (hn : ∀ (j : Nat) (y : UInt8), s[j]? = some y → cls y.toNat ≠ 0) : scanS s = ([], i, 8) := by
  obtain ⟨hi, rfl⟩ := List.getElem?_eq_some_iff.1 hb
  have e := toks_cons (k := i) (t := s.drop (i + 1)) hs
  rw [← List.drop_eq_getElem_cons hi] at e
  exact scanS_full h0 hn h.all hl e rfl
theorem ScAt.fin {s : List UInt8} {l : List TokD} (h : ScAt s s.length l) (h0 : ¬ 40000 < s.length) (hn : ∀ (j : Nat) (y : UInt8), s[j]? = some y → cls y.toNat ≠ 0) : scanS s = (l, 0, 0) :=
  scanS_ok h0 hn (by rw [h.all, toks_end, List.append_nil]) h.few
theorem sp_true {b : UInt8} (h : cls b.toNat = 1) : sp b = true := by unfold sp; rw [h]; rfl
theorem sp_false {b : UInt8} (h : cls b.toNat ≠ 1) : sp b = false := by unfold sp; simpa using h
set_option maxRecDepth 100000 in
set_option maxHeartbeats 4000000 in
theorem scan_any (w : World) (s : List UInt8) :
    Calls Try.prog 20 #[.string ⟨s.toArray⟩] w fun e w' => ∃ v, e = .returned (.tuple #[v, .int .i64 (scanS s).2.1, .int .i64 (scanS s).2.2]) ∧ ToksAt w' v (scanS s).1 ∧ Below w.heap.size w w' := by
  by_cases hbig : 40000 < s.length
  · have e0 : decide ((40000 : Int) < (s.length : Int)) = true := decide_eq_true (by omega)
    have HS := Lib.hid (scanS_big hbig)
    clear hbig
    go_enter Try.func20, Try.ntmps20
    go_wp2
    go_step3
    go_wp2
    rw [Exit.noGoto_ret]
    go_ret3
    rw [HS.out]
    exact ⟨_, rfl, Rds.nil_, Below.refl _ _⟩
  · have e0 : decide ((40000 : Int) < (s.length : Int)) = false := decide_eq_false (by omega)
    have hs4 : s.length ≤ 40000 := by omega
    have HBIG := Lib.hid hbig
    clear hbig
    go_enter Try.func20, Try.ntmps20
    have hi : (Try.prog.info? 71).map (·.size) = some (tabA 256).size := by rw [tabA_size]; kernel_rfl
    have hone : (tabA 256).all (·.oneCell') = true := by kernel_rfl
    have hal : Try.prog.arrayLen 71 = 256 := by kernel_rfl
    have hzs : (Try.zeroCells71).size = (tabA 256).size := by kernel_rfl
    go_wp2
    go_step3
    go_wp2_with (first | (go_at_call 28; (refine (classes_any _).mono ?_; rintro e w1 ⟨rfl, hb1⟩)) | (refine wpList_store_row rfl 71 (.tmp 5) (.tmp 13) rfl w1.heap.size (tabA 256) rfl rfl 71 Try.zeroCells71 (Row.new _ _ _) hi hzs hone ?_))
    obtain ⟨W, hW⟩ : ∃ W, W = (w1.alloc (.cells Try.zeroCells71 71)).setRow w1.heap.size (tabA 256) := ⟨_, rfl⟩
    rw [← hW]
    have hrow : Row W w1.heap.size 71 (tabA 256) := by rw [hW]; exact setRow_heap _ _ _ _ _ _ (Row.new _ _ _)
    have hB : Below w.heap.size w W := by
      rw [hW]
      exact (new_ hb1 _).trans ⟨rfl, rfl, rfl, by simp, fun k hk => setRow_other _ _ _ _ (by have := hb1.size; omega)⟩
    clear hW hi hone hzs hb1
    go_loop [6, 16] (fun _ i => ∃ k : Nat, k ≤ s.length ∧ i = .int .i64 k ∧ ∀ (j : Nat) (y : UInt8), j < k → s[j]? = some y → cls y.toNat ≠ 0) (fun _ i => s.length - (intOf i).toNat)
    case atStart => exact ⟨0, Nat.zero_le _, rfl, by simp⟩
    case round =>
      obtain ⟨k, hk, rfl, hn⟩ := hrel
      have HN := Lib.hid hn
      clear hn
      by_cases hlt : k < s.length
      · obtain ⟨c, hce, hcl⟩ : ∃ c : Nat, (ByteArray.mk s.toArray)[k].toNat = c ∧ c = s[k].toNat := ⟨_, rfl, rfl⟩
        have HC := Lib.hid hcl
        have hc256 : c < 256 := by rw [hcl]; exact s[k].toNat_lt
        clear hcl
        have hcell : W.cell? ⟨w1.heap.size, c, none⟩ = some (.int .u8 (cls c : Nat)) := hrow.cell (by rw [tabA_at _ _ hc256, if_pos hc256])
        by_cases h0 : cls c = 0
        · have e1 : (((cls c : Nat) : Int) == 0) = true := by simp [h0]
          have HS := Lib.hid (scanS_byte HBIG.out (List.getElem?_eq_getElem hlt) (by rw [← HC.out]; exact h0) HN.out)
          clear h0
          go_wp2
          go_ret3
          rw [HS.out]
          exact ⟨_, rfl, Rds.nil_, hB⟩
        · have e1 : (((cls c : Nat) : Int) == 0) = false := by simpa using h0
          have H0 := Lib.hid h0
          clear h0
          go_wp2
          go_round
          case rel => exact ⟨k + 1, by omega, by go_num, fun j y hj hy => by
            by_cases e : j = k
            · subst e; rw [List.getElem?_eq_getElem hlt] at hy; cases hy; rw [← HC.out]; exact H0.out
            · exact HN.out j y (by omega) hy⟩
          case measure => simp [intOf]; omega
      · obtain rfl : k = s.length := by omega
        have HA : Hid (∀ (j : Nat) (y : UInt8), s[j]? = some y → cls y.toNat ≠ 0) := Lib.hid fun j y hy => HN.out j y (List.getElem?_eq_some_iff.1 hy).1 hy
        obtain ⟨i0, hi, hj0, hj1, hj2⟩ := info_parts infoTok
        go_wp2
        go_step3
        go_wp2
        go_loopw [7, 8] (fun lv iv wr => ∃ (i : Nat) (l : List TokD), ScAt s i l ∧ iv = .int .i64 i ∧ wr.ownsRow W.heap.size 40 2 lv l.length (l.flatMap tokCells) ∧ Below W.heap.size W wr) (fun _ iv _ => s.length - (intOf iv).toNat)
        case atStart => exact ⟨0, [], ⟨Nat.zero_le _, by simp, by simp⟩, rfl, World.ownsRow_nil _ _ _ _, Below.refl _ _⟩
        case round =>
          obtain ⟨i, l, hsc, rfl, hown, hbw⟩ := hrel
          have hil := hsc.le
          have hfew := hsc.few
          have HSC := Lib.hid hsc
          clear hsc
          obtain ⟨Al, cl, rfl, hcl⟩ := own_form hown
          obtain ⟨wo, rfl⟩ : ∃ wo : World, wo = wr := ⟨_, rfl⟩
          have hrw := hrow.below hbw hrow.lt
          have hwz := hbw.size
          go_wp2
          go_loop [8] (fun iv => ∃ i' : Nat, i ≤ i' ∧ i' ≤ s.length ∧ iv = .int .i64 i' ∧ ScAt s i' l) (fun iv => s.length - (intOf iv).toNat)
          case atStart => exact ⟨i, Nat.le_refl _, hil, rfl, HSC.out⟩
          case round =>
            obtain ⟨i', hi1, hi2, rfl, hsc⟩ := hrel
            have HSC' := Lib.hid hsc
            clear hsc
            by_cases hlt : i' < s.length
            · skip
              obtain ⟨c, hce, hcl⟩ : ∃ c : Nat, (ByteArray.mk s.toArray)[i'].toNat = c ∧ c = s[i'].toNat := ⟨_, rfl, rfl⟩
              have HC := Lib.hid hcl
              have hc256 : c < 256 := by rw [hcl]; exact s[i'].toNat_lt
              clear hcl
              have hcell : wo.cell? ⟨w1.heap.size, c, none⟩ = some (.int .u8 (cls c : Nat)) := hrw.cell (by rw [tabA_at _ _ hc256, if_pos hc256])
              by_cases h1 : cls c = 1
              · have e1 : (((cls c : Nat) : Int) == 1) = true := by simp [h1]
                have H1 := Lib.hid h1
                clear h1
                go_wp2
                go_round
                case rel => exact ⟨i' + 1, by omega, by omega, by go_num, HSC'.out.skip (List.getElem?_eq_getElem hlt) (sp_true (by rw [← HC.out]; exact H1.out))⟩
                case measure => simp [intOf]; omega
              · have e1 : (((cls c : Nat) : Int) == 1) = false := by simp; omega
                have t2 : ((i' : Int) == (s.length : Int)) = false := by simp; omega
                have HSP : Hid (sp s[i'] = false) := Lib.hid (sp_false (by rw [← HC.out]; exact h1))
                clear h1
                by_cases h8 : l.length = 8000
                · have e8 : ((l.length : Int) == 8000) = true := by simp [h8]
                  have HS := Lib.hid (HSC'.out.full (List.getElem?_eq_getElem hlt) HSP.out h8 HBIG.out HA.out)
                  clear h8
                  go_wp2
                  go_ret3
                  rw [HS.out]
                  exact ⟨_, rfl, Rds.nil_, hB.trans (hbw.mono (by have := hB.size; omega))⟩
                · have e8 : ((l.length : Int) == 8000) = false := by simp; omega
                  replace h8 := Lib.hid h8
                  go_wp2
                  go_loop [9] (fun ev => ∃ e : Nat, i' ≤ e ∧ e ≤ s.length ∧ ev = .int .i64 e ∧ ∀ (j : Nat) (b : UInt8), i' ≤ j → j < e → s[j]? = some b → sp b = false) (fun ev => s.length - (intOf ev).toNat)
                  case atStart => exact ⟨i', Nat.le_refl _, by omega, rfl, fun j b h1 h2 => by omega⟩
                  case round =>
                    obtain ⟨e, he1, he2, rfl, hns⟩ := hrel
                    have HNS := Lib.hid hns
                    clear hns
                    by_cases hlt2 : e < s.length
                    · obtain ⟨c2, hce2, hcl2⟩ : ∃ c : Nat, (ByteArray.mk s.toArray)[e].toNat = c ∧ c = s[e].toNat := ⟨_, rfl, rfl⟩
                      have HC2 := Lib.hid hcl2
                      have hc2256 : c2 < 256 := by rw [hcl2]; exact s[e].toNat_lt
                      clear hcl2
                      have hcell2 : wo.cell? ⟨w1.heap.size, c2, none⟩ = some (.int .u8 (cls c2 : Nat)) := hrw.cell (by rw [tabA_at _ _ hc2256, if_pos hc2256])
                      by_cases h2 : cls c2 = 1
                      · have e2 : (((cls c2 : Nat) : Int) != 1) = false := by simp [h2]
                        have hsp2 : sp s[e] = true := sp_true (by rw [← HC2.out]; exact h2)
                        have hie : i' < e := by
                          rcases Nat.lt_or_ge i' e with h | h
                          · exact h
                          · obtain rfl : e = i' := by omega
                            have := HSP.out; rw [hsp2] at this; cases this
                        have HT : Hid (∀ b, s[e]? = some b → sp b = true) := Lib.hid fun b hb => by rw [List.getElem?_eq_getElem hlt2] at hb; cases hb; exact hsp2
                        clear h2 hsp2
                        go_wp2_with (first
                          | (go_at_call 29; (refine (clone_ba _ _ (by rw [bytes_cut]; simp [ByteArray.size]; omega)).mono ?_; rintro e1 wc ⟨rfl, hbc⟩; have hownc := own_below hown hbc; have hcz := hbc.size))
                          | (at_builtin; (refine wpList_append_own _ rfl (.tmp 66) (.tmp 74) 35 rfl W.heap.size 40 i0 (.agg #[.string ⟨#[]⟩, .int .i64 0]) 2 24 Try.underlying35 hi hj0 hj1 hj2 rfl (by decide) _ l.length (l.flatMap tokCells) rfl (hownc.alloc _) ⟨wc.heap.size, 0, none⟩ 1 1 [.string ((ByteArray.mk s.toArray).extract i' e), .int .i64 (i' : Int)] rfl rfl (cells_at _ _ _ _ rfl) (by simp [Value.oneCell']) (by unfold maxLen; omega) (by omega) (by simp; omega) ?_; intro v' wz hown' hgrow _)))
                        rw [bytes_cut] at hown'
                        go_roundw
                        case rel => exact ⟨e, l ++ [((s.take e).drop i', i')], HSC'.out.tok hie he2 HNS.out HT.out h8.out, rfl, toks_snoc hown' rfl rfl, (((hbw.trans (hbc.mono hwz)).alloc (by omega) _).grown hgrow (by simp; omega) (own_block hownc))⟩
                        case measure => simp [intOf]; omega
                      · have e2 : (((cls c2 : Nat) : Int) != 1) = true := by simp; omega
                        have H2 := Lib.hid h2
                        clear h2
                        go_wp2
                        go_round
                        case rel => exact ⟨e + 1, by omega, by omega, by go_num, fun j b h1 h2 hj => by
                          by_cases ej : j = e
                          · subst ej; rw [List.getElem?_eq_getElem hlt2] at hj; cases hj; exact sp_false (by rw [← HC2.out]; exact H2.out)
                          · exact HNS.out j b h1 (by omega) hj⟩
                        case measure => simp [intOf]; omega
                    · have hie : i' < e := by omega
                      have HT : Hid (∀ b, s[e]? = some b → sp b = true) := Lib.hid fun b hb => by rw [List.getElem?_eq_none (by omega)] at hb; cases hb
                      go_wp2_with (first
                        | (go_at_call 29; (refine (clone_ba _ _ (by rw [bytes_cut]; simp [ByteArray.size]; omega)).mono ?_; rintro e1 wc ⟨rfl, hbc⟩; have hownc := own_below hown hbc; have hcz := hbc.size))
                        | (at_builtin; (refine wpList_append_own _ rfl (.tmp 66) (.tmp 74) 35 rfl W.heap.size 40 i0 (.agg #[.string ⟨#[]⟩, .int .i64 0]) 2 24 Try.underlying35 hi hj0 hj1 hj2 rfl (by decide) _ l.length (l.flatMap tokCells) rfl (hownc.alloc _) ⟨wc.heap.size, 0, none⟩ 1 1 [.string ((ByteArray.mk s.toArray).extract i' e), .int .i64 (i' : Int)] rfl rfl (cells_at _ _ _ _ rfl) (by simp [Value.oneCell']) (by unfold maxLen; omega) (by omega) (by simp; omega) ?_; intro v' wz hown' hgrow _)))
                      rw [bytes_cut] at hown'
                      go_roundw
                      case rel => exact ⟨e, l ++ [((s.take e).drop i', i')], HSC'.out.tok hie he2 HNS.out HT.out h8.out, rfl, toks_snoc hown' rfl rfl, (((hbw.trans (hbc.mono hwz)).alloc (by omega) _).grown hgrow (by simp; omega) (own_block hownc))⟩
                      case measure => simp [intOf]; omega
            · obtain rfl : i' = s.length := by omega
              have HS := Lib.hid (HSC'.out.fin HBIG.out HA.out)
              go_wp2
              go_ret3
              rw [HS.out]
              exact ⟨_, rfl, Rds.of_own hown, hB.trans (hbw.mono (by have := hB.size; omega))⟩
end Go.Proofs.Ythkeggmloajapaa
end
section
namespace Go.Proofs.Ythkeggmloajapaa
open Go.RowKit
theorem flatN {α : Type} (n : Nat) (f : α → List Value) (hf : ∀ x, (f x).length = n) : ∀ (l : List α) (k i : Nat) (x : α), l[k]? = some x → i < n → (l.flatMap f)[k * n + i]? = (f x)[i]? := by
  intro l
  induction l with
  | nil => intro k i x h; simp at h
  | cons a l ih =>
    intro k i x h hi
    rw [List.flatMap_cons]
    cases k with
    | zero =>
      obtain rfl : a = x := by simpa using h
      rw [List.getElem?_append_left (by rw [hf]; omega)]
      congr 1; omega
    | succ k =>
      rw [List.getElem?_append_right (by rw [hf, Nat.succ_mul]; omega), hf]
      rw [← ih k i x (by simpa using h) hi]
      congr 1; rw [Nat.succ_mul]; omega
theorem ToksAt.open_ {w : World} {v : Value} {l : List TokD} (h : ToksAt w v l) : ∃ A c, v = .slice A l.length c ∧ l.length ≤ c ∧ l.length ≤ maxLen ∧
    (∀ k x, l[k]? = some x → ∃ b o, A = some ⟨b, o, none⟩ ∧ w.cell? ⟨b, o + k * 2, none⟩ = some (.string ⟨x.1.toArray⟩) ∧ w.cell? ⟨b, o + k * 2 + 1, none⟩ = some (.int .i64 (x.2 : Nat))) := by
  obtain ⟨A, c, hv, hc, hm, hl, hr⟩ := h
  refine ⟨A, c, hv, hc, hm, fun k x hx => ?_⟩
  have hk : k < l.length := (List.getElem?_eq_some_iff.1 hx).1
  obtain ⟨b, o, ha, hz⟩ := hr (by omega)
  have hf := fun i hi => flatN 2 tokCells (fun _ => rfl) l k i x hx hi
  exact ⟨b, o, ha, hz (k * 2) _ (hf 0 (by omega)), hz (k * 2 + 1) _ (hf 1 (by omega))⟩
theorem ToksAt.below {w w' : World} {v : Value} {l : List TokD} (h : ToksAt w v l) (hb : Below w.heap.size w w') : ToksAt w' v l := Rds.below h hb
def comCells (x : ComD) : List Value := [.string ⟨x.1.toArray⟩, .int .i64 0, .int .i64 (x.2.1 : Nat), .int .i64 (x.2.2 : Nat)]
/-- the slice value v reads as the comments l -/
def ComsAt (w : World) (v : Value) (l : List ComD) : Prop := Rds w 4 v l.length (l.flatMap comCells)
theorem infoCom : (Try.prog.info? 44).map (fun i => (i.zero, i.size, i.bytes)) = some (some (.agg #[.string ⟨#[]⟩, .int .i64 0, .int .i64 0, .int .i64 0]), 4, 40) := by kernel_rfl
theorem index_two (a b : UInt8) : ∀ (l : List UInt8), -1 ≤ Lib.index l [a, b] ∧ decide (0 ≤ Lib.index l [a, b]) = hasB a b l := by
  intro l
  induction l with
  | nil => exact ⟨by simp [Lib.index], by simp [Lib.index, hasB]⟩
  | cons x l ih =>
    obtain ⟨h1, h2⟩ := ih
    unfold Lib.index hasB
    have hp : List.isPrefixOf [a, b] (x :: l) = (x == a && l.head? == some b) := by
      cases l with
      | nil => simp [List.isPrefixOf]
      | cons y l =>
        simp only [List.isPrefixOf, List.head?_cons, Bool.and_true]
        rw [Bool.eq_iff_iff]; simp; constructor <;> (rintro ⟨rfl, rfl⟩; exact ⟨rfl, rfl⟩)
    rw [hp]
    by_cases hc : (x == a && l.head? == some b) = true
    · rw [if_pos hc, hc]; simp
    · rw [if_neg hc, Bool.not_eq_true _ |>.mp hc, Bool.false_or, ← h2]
      by_cases h3 : Lib.index l [a, b] = -1
      · simp [h3]
      · have : (Lib.index l [a, b] == -1) = false := by simpa using h3
        rw [this]
        simp
        omega
theorem contains_two (w : World) (s : List UInt8) (a b : UInt8) (hM : MaxAt w) (hs : s.length ≤ 40000) :
    Calls Try.prog 21 #[.string ⟨s.toArray⟩, .string ⟨#[a, b]⟩] w fun e w' => e = .returned (.bool (hasB a b s)) ∧ w = w' := by
  obtain ⟨m, hm⟩ := hM
  refine (Try.strings_Contains ⟨s.toArray⟩ ⟨#[a, b]⟩ m w (by simp [ByteArray.size]; omega) hm).mono ?_
  rintro e w' ⟨he, hw⟩
  exact ⟨by rw [he, ← (index_two a b s).2]; rfl, hw.symm⟩
theorem cells_at' (w : World) (cs : Array Value) (t : TypeId) (l : List Value) {g : Nat} (hl : cs.toList = l) (hg : w.heap.size = g) : ∀ j u, l[j]? = some u → (w.alloc (.cells cs t)).cell? ((⟨g, 0, none⟩ : Addr).add j) = some u := by
  subst hg; exact cells_at w cs t l hl
theorem coms_snoc {w : World} {base : Nat} {e : TypeId} {v : Value} {l : List ComD} {t : ComD} {X : List Value} {n : Nat} (h : w.ownsRow base e 4 v (n + 1) (X ++ comCells t)) (hX : X = l.flatMap comCells) (hn : n = l.length) :
    w.ownsRow base e 4 v (l ++ [t]).length ((l ++ [t]).flatMap comCells) := by
  subst hX hn; simpa [List.flatMap_append] using h
/-- where the comment begins; -1: none is open -/
def opI (o : Option Nat) : Int := match o with | none => -1 | some i => i
end Go.Proofs.Ythkeggmloajapaa
end
