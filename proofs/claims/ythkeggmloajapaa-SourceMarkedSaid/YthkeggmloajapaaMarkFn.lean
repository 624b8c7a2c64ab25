/- Marks of the program. -/
import Derived.Test.YthkeggmloajapaaMarkCite
import Derived.Test.YthkeggmloajapaaShelf
import Derived.RegionTactic
import Derived.WalkMore
namespace Go.Proofs.Ythkeggmloajapaa
open Go.RowKit
attribute [local go_sem ↓] Go.wp_at_zero Go.wp_at_succ
/-- what Marks returns -/
def MarksPost (w : World) (r : List MarkD × Nat × Int) (e : Ending) (w' : World) : Prop :=
  ∃ v, e = .returned (.tuple #[v, .int .i64 (r.2.1 : Nat), .int .i64 r.2.2]) ∧ Rds w' 2 v r.1.length (markC r.1) ∧ Below w.heap.size w w'
def nonP (ms : List MarkD) : Prop := (lastM (0, []) ms).1 ≠ 1
theorem flat_plain {pl : List UInt8} {ms : List MarkD} (h : nonP ms) (b : UInt8) : addM (flatM pl ms) 1 [b] = flatM (pl ++ [b]) ms := by
  unfold flatM
  rw [if_neg (by simp : ¬ pl ++ [b] = [])]
  split
  · rename_i h0
    subst h0
    exact addM_other fun e => h e.2
  · rw [addM_plain]
theorem flat_other {pl : List UInt8} {ms : List MarkD} {k : Int} {t : List UInt8} (hk : k ≠ 1) : addM (flatM pl ms) k t = flatM [] (flatM pl ms ++ [(k, t)]) ∧ nonP (flatM pl ms ++ [(k, t)]) := by
  refine ⟨?_, ?_⟩
  · rw [addM_other fun e => hk e.1]
    simp [flatM]
  · unfold nonP
    rw [lastM_snoc]
    exact hk
theorem flat_len (pl : List UInt8) (ms : List MarkD) : (flatM pl ms).length ≤ ms.length + 1 := by
  unfold flatM
  split <;> simp
/-- the place that the divider's block holds -/
def placeOf (w : World) (g : Nat) : Nat := match w.cell? ⟨g, 1, none⟩ with
  | some (.int _ n) => n.toNat
  | _ => 0
theorem DivR.place {w : World} {g i : Nat} {text pl : List UInt8} {ms : List MarkD} {pv mv : Value} (h : DivR w g text i pl ms pv mv) : placeOf w g = i := by
  unfold placeOf
  rw [h.row.cell (i := 1) (v := .int .i64 i) rfl]
  simp
theorem index_math : ∀ (r : List UInt8), Lib.indexByte r 96 = if (mathT r).length = r.length then -1 else ((mathT r).length : Int)
  | [] => rfl
  | b :: r => by
    have ih := index_math r
    unfold mathT at ih ⊢
    by_cases hb : b = 96
    · subst hb
      rw [Lib.indexByte]
      simp
    · have h1 : (b == 96) = false := by simpa using hb
      rw [Lib.indexByte, h1, ih, List.takeWhile_cons_of_pos (by simpa using hb)]
      simp only [List.length_cons, Nat.add_right_cancel_iff, Bool.false_eq_true, if_false]
      by_cases hl : (List.takeWhile (fun c => c != 96) r).length = r.length
      · rw [if_pos hl, if_pos hl]
        rfl
      · rw [if_neg hl, if_neg hl]
        have : ((((List.takeWhile (fun c => c != 96) r).length : Nat) : Int) == -1) = false := by rw [beq_eq_false_iff_ne]; omega
        rw [this]
        simp
theorem index96 (w : World) (r : List UInt8) : Calls Try.prog 10 #[.string ⟨r.toArray⟩, .int .u8 96] w fun e w' => e = .returned (.int .i64 (if (mathT r).length = r.length then -1 else ((mathT r).length : Int))) ∧ w = w' := by
  have h := Try.strings_IndexByte ⟨r.toArray⟩ 96 w
  have e : Lib.indexByte (ByteArray.mk r.toArray).data.toList (96 : Int).toNat.toUInt8 = if (mathT r).length = r.length then -1 else ((mathT r).length : Int) := index_math r
  rw [e] at h
  exact h.mono fun _ _ ⟨h1, h2⟩ => ⟨h1, h2.symm⟩
theorem cut_end (l : List UInt8) (a : Nat) : (⟨l.toArray⟩ : ByteArray).extract a l.length = ⟨(l.drop a).toArray⟩ := by
  rw [cut_text, List.take_of_length_le (by simp)]
section
variable {w : World} {g i : Nat} {text pl : List UInt8} {ms : List MarkD} {pv mv : Value} {r : List UInt8}
theorem refer_no (h : DivR w g text i pl ms pv mv) (hi : i < text.length) (ht : text.length ≤ 40000) (hn : pl.length ≤ 40000) (hm : ms.length ≤ 40000) (hr : text.drop (i + 1) = r) (hz : refW r = 0 ∨ refT r = []) :
    Calls Try.prog 12 #[.pointer (some ⟨g, 0, none⟩)] w fun e w' => e = .returned (.bool false) ∧ Below g w w' ∧ DivR w' g text i pl ms pv mv :=
  (refer_any w g text pl i ms pv mv h hi ht hn hm r hr).mono fun _ _ ⟨h1, h2, h3, _⟩ => ⟨by rw [h1]; simp [hz], h2, h3 hz⟩
theorem refer_yes (h : DivR w g text i pl ms pv mv) (hi : i < text.length) (ht : text.length ≤ 40000) (hn : pl.length ≤ 40000) (hm : ms.length ≤ 40000) (hr : text.drop (i + 1) = r) (hz : ¬(refW r = 0 ∨ refT r = [])) :
    Calls Try.prog 12 #[.pointer (some ⟨g, 0, none⟩)] w fun e w' => e = .returned (.bool true) ∧ Below g w w' ∧ ∃ pv' mv', DivR w' g text ((i + (1 + refW r + (refT r).length) : Nat) : Int) [] (flatM pl ms ++ [(3, refT r)]) pv' mv' :=
  (refer_any w g text pl i ms pv mv h hi ht hn hm r hr).mono fun _ _ ⟨h1, h2, _, h4⟩ => ⟨by rw [h1]; simp [hz], h2, h4 hz⟩
theorem cite_no (h : DivR w g text i pl ms pv mv) (hi : i < text.length) (ht : text.length ≤ 40000) (hn : pl.length ≤ 40000) (hm : ms.length ≤ 40000) (hr : text.drop (i + 1) = r) (hz : citeN r = 0) :
    Calls Try.prog 13 #[.pointer (some ⟨g, 0, none⟩)] w fun e w' => e = .returned (.bool false) ∧ Below g w w' ∧ DivR w' g text i pl ms pv mv :=
  (cite_any w g text pl i ms pv mv h hi ht hn hm r hr).mono fun _ _ ⟨h1, h2, h3, _⟩ => ⟨by rw [h1]; simp [hz], h2, h3 hz⟩
theorem cite_yes (h : DivR w g text i pl ms pv mv) (hi : i < text.length) (ht : text.length ≤ 40000) (hn : pl.length ≤ 40000) (hm : ms.length ≤ 40000) (hr : text.drop (i + 1) = r) (hz : citeN r ≠ 0) :
    Calls Try.prog 13 #[.pointer (some ⟨g, 0, none⟩)] w fun e w' => e = .returned (.bool true) ∧ Below g w w' ∧ ∃ pv' mv', DivR w' g text ((i + (citeN r + 2) : Nat) : Int) [] (flatM pl ms ++ [(4, r.take (citeN r))]) pv' mv' :=
  (cite_any w g text pl i ms pv mv h hi ht hn hm r hr).mono fun _ _ ⟨h1, h2, _, h4⟩ => ⟨by rw [h1]; simp [hz], h2, h4 hz⟩
end
set_option maxRecDepth 100000 in
set_option maxHeartbeats 8000000 in
theorem marks_any (w : World) (text : List UInt8) : Calls Try.prog 6 #[.string ⟨text.toArray⟩] w (MarksPost w (marksS text)) := by
  by_cases hbig : 40000 < text.length
  · have e1 : decide ((40000 : Int) < (text.length : Int)) = true := decide_eq_true (by omega)
    have HR : Hid (marksS text = ([], 0, 4)) := Lib.hid (by unfold marksS; rw [if_pos hbig])
    clear hbig
    go_enter Try.func6, Try.ntmps6
    go_wp2_with fail
    go_step3
    go_wp2_with fail
    refine bodyPost_ret (v := .tuple #[.slice none 0 0, .int .i64 0, .int .i64 4]) (by simp [results, Try.results6, go_sem]) rfl ?_
    rw [HR.out]
    exact ⟨_, rfl, Rds.nil_, Below.refl _ _⟩
  · have e1 : decide ((40000 : Int) < (text.length : Int)) = false := decide_eq_false (by omega)
    have hn : text.length ≤ 40000 := by omega
    have HR := Lib.hid (mrest_zero hbig)
    clear hbig
    go_enter Try.func6, Try.ntmps6
    go_wp2_with fail
    go_step3
    go_wp2_with fail
    go_step3
    go_wp2_with fail
    obtain ⟨w1, hw1⟩ : ∃ w1, w.alloc (.cells #[.string ⟨text.toArray⟩, .int .i64 0, .slice none 0 0, .slice none 0 0] 48) = w1 := ⟨_, rfl⟩
    have hD : DivR w1 w.heap.size text 0 [] [] (.slice none 0 0) (.slice none 0 0) := by
      rw [← hw1]
      exact ⟨Row.new _ _ _, World.ownsRow_nil _ _ _ _, World.ownsRow_nil _ _ _ _⟩
    have HD := Lib.hid hD
    have HB1 : Hid (Below w.heap.size w w1) := Lib.hid (hw1 ▸ new_ (Below.refl _ _) _)
    rw [hw1]
    obtain ⟨g, hg⟩ : ∃ g, w.heap.size = g := ⟨_, rfl⟩
    rw [hg] at HD HB1
    simp only [hg]
    have HG := Lib.hid hg
    clear hw1 hD hg
    go_loopw [6] (fun _ wr => ∃ (i : Nat) (pl : List UInt8) (ms : List MarkD) (pv mv : Value), i ≤ text.length ∧ DivR wr g text i pl ms pv mv ∧ Below g w wr ∧ marksS text = mrest text i (flatM pl ms) ∧ nonP ms ∧ pl.length ≤ i ∧ ms.length ≤ i) (fun _ wr => text.length - placeOf wr g)
    case atStart => exact ⟨0, [], [], _, _, Nat.zero_le _, HD.out, HB1.out, HR.out, fun e => absurd e (by decide), Nat.le_refl _, Nat.le_refl _⟩
    case round =>
      obtain ⟨wo, rfl⟩ : ∃ wo, wo = wr := ⟨_, rfl⟩
      obtain ⟨i, pl, ms, pv, mv, hi, hd, hb, hr, hnp, hpl, hml⟩ := hrel
      have HDO := Lib.hid hd
      have HBO := Lib.hid hb
      have HRO := Lib.hid hr
      have HNP := Lib.hid hnp
      obtain ⟨pA, pc, rfl, hpc⟩ := own_form hd.po
      have c1 := hd.row.cell (i := 1) (v := .int .i64 i) rfl
      have c2 := hd.row.cell (i := 2) (v := .slice pA pl.length pc) rfl
      have c3 := hd.row.cell (i := 3) (v := mv) rfl
      have f1 := hd.row.free 1
      have f2 := hd.row.free 2
      have hlt := hd.row.lt
      clear hd hb hr hnp
      by_cases hil : i < text.length
      · obtain ⟨b, hbx⟩ : ∃ b, text[i] = b := ⟨_, rfl⟩
        obtain ⟨r, hrd⟩ : ∃ r, text.drop (i + 1) = r := ⟨_, rfl⟩
        have hdr : text.drop i = b :: r := by rw [List.drop_eq_getElem_cons hil, hbx, hrd]
        obtain ⟨c, hce, hcl⟩ : ∃ c : Nat, (ByteArray.mk text.toArray)[i].toNat = c ∧ c = b.toNat := ⟨_, rfl, by rw [← hbx]; rfl⟩
        have HMS := Lib.hid (mstep_cons b r)
        rw [← hdr] at HMS
        have HRD := Lib.hid hrd
        clear hdr hbx hrd
        have HNX : Hid (∀ k t c, mstep (text.drop i) = some (k, t, c) → marksS text = mrest text (i + c) (addM (flatM pl ms) k t)) := Lib.hid fun k t c h => HRO.out.trans (mrest_next h)
        have hil0 := hil
        have OTHER : Hid (∀ (W4 : World) (pv' mv' : Value) (k : Int) (t : List UInt8) (d : Nat) (z : Int), z = ((i + d : Nat) : Int) → DivR W4 g text z [] (flatM pl ms ++ [(k, t)]) pv' mv' → Below g wo W4 → k ≠ 1 → mstep (text.drop i) = some (k, t, d) → 2 ≤ d →
            (∃ (i' : Nat) (pl' : List UInt8) (ms' : List MarkD) (pv mv' : Value), i' ≤ text.length ∧ DivR W4 g text i' pl' ms' pv mv' ∧ Below g w W4 ∧ marksS text = mrest text i' (flatM pl' ms') ∧ nonP ms' ∧ pl'.length ≤ i' ∧ ms'.length ≤ i') ∧ text.length - placeOf W4 g < text.length - placeOf wo g) := Lib.hid fun W4 pv' mv' k t d z hz h4 hb4 hk hst hd => by
          subst hz
          have hle := (mstep_pos hst).2
          rw [List.length_drop] at hle
          obtain ⟨f1, f2⟩ := flat_other (pl := pl) (ms := ms) (t := t) hk
          have h1 := HNX.out _ _ _ hst
          rw [f1] at h1
          have h2 := flat_len pl ms
          refine ⟨⟨i + d, [], _, _, _, by omega, h4, HBO.out.trans hb4, h1, f2, Nat.zero_le _, by rw [List.length_append]; simp; omega⟩, ?_⟩
          rw [h4.place, HDO.out.place]
          omega
        have BYTE : Hid (∀ (wb w2 : World) (bk cap : Nat) (d : Nat) (z : Int) (W4 : World), DivR wb g text i pl ms (.slice pA pl.length pc) mv → Below g wo wb → z = (b.toNat : Int) → w2.ownsRow g 5 1 (.slice (some ⟨bk, 0, none⟩) (pl.length + 1) cap) (pl.length + 1) (Lib.byteCells pl ++ [.int .u8 z]) → (wb.alloc (.cells #[.int .u8 z] 5)).grownBy w2 (Value.slice pA pl.length pc).ownBlock → 1 ≤ d → mstep (text.drop i) = some (1, [b], d) → ((w2.setCell ⟨g, 2, none⟩ (.slice (some ⟨bk, 0, none⟩) (pl.length + 1) cap)).setCell ⟨g, 1, none⟩ (.int .i64 ((i : Int) + d))) = W4 →
            (∃ (i' : Nat) (pl' : List UInt8) (ms' : List MarkD) (pv mv' : Value), i' ≤ text.length ∧ DivR W4 g text i' pl' ms' pv mv' ∧ Below g w W4 ∧ marksS text = mrest text i' (flatM pl' ms') ∧ nonP ms' ∧ pl'.length ≤ i' ∧ ms'.length ≤ i') ∧ text.length - placeOf W4 g < text.length - placeOf wo g) := Lib.hid fun wb w2 bk cap d z W4 hwb hbb hz hown hgrow hd1 hst hW => by
          subst hz
          have hle := (mstep_pos hst).2
          rw [List.length_drop] at hle
          obtain ⟨q1, q2⟩ := hwb.byte (c := b) (new_ (Below.refl _ _) _) hgrow hown
          obtain ⟨q3, q4⟩ := q1.at_ ((i : Int) + d)
          rw [hW] at q3 q4
          have e : (i : Int) + d = ((i + d : Nat) : Int) := by omega
          rw [e] at q3
          refine ⟨⟨i + d, pl ++ [b], ms, _, _, by omega, q3, HBO.out.trans (hbb.trans (q2.trans q4)), by rw [← flat_plain HNP.out]; exact HNX.out _ _ _ hst, HNP.out, by rw [List.length_append]; simp; omega, by omega⟩, ?_⟩
          rw [q3.place, HDO.out.place]
          omega
        obtain ⟨iB, hiB, hB0, hB1, hB2⟩ := info_parts infoByte
        by_cases hD : special b = true ∧ r.head? = some b
        · have hst : mstep (text.drop i) = some (1, [b], 2) := by rw [HMS.out, if_pos hD]
          have HST := Lib.hid hst
          have hnext : ∃ h : i + 1 < text.length, text[i + 1] = b := by
            have h1 := hD.2
            rw [← HRD.out, List.head?_drop] at h1
            exact List.getElem?_eq_some_iff.1 h1
          obtain ⟨hil1, hb1⟩ := hnext
          have hce1 : (ByteArray.mk text.toArray)[i + 1].toNat = c := by rw [hcl, ← hb1]; rfl
          have hsp : c = 96 ∨ c = 126 ∨ c = 91 := by
            have h1 := hD.1
            unfold special at h1
            simp at h1
            rcases h1 with h1 | h1 | h1 <;> rw [hcl, h1] <;> decide
          have HC := Lib.hid hcl
          clear hD hst hb1 hcl
          rcases hsp with rfl | rfl | rfl
          · go_wp2_with (at_builtin; refine wpList_append_own_at _ rfl (.tmp 62) (.tmp 64) 46 rfl g 5 iB (.int .u8 0) 1 1 Try.underlying46 hiB hB0 hB1 hB2 rfl (by decide) (.slice pA pl.length pc) pl.length (Lib.byteCells pl) rfl (HDO.out.po.alloc _) ⟨wo.heap.size, 0, none⟩ 1 1 [.int .u8 96] rfl rfl (cells_of' _ _ _ _ rfl (by simp)) (by simp [Value.oneCell']) (by unfold maxLen; omega) (by omega) (by simp; omega) ?_; intro v' w2 hown' hgrow _ hat; obtain ⟨bk, cap, rfl⟩ := own_some hown' (by omega); have HO := Lib.hid hown'; have hr2 := (HDO.out.row.alloc _).grown hgrow (fun e => HDO.out.pfar e.symm); have f12 := hr2.free 1; have f22 := hr2.free 2; have c12 := hr2.cell (i := 1) (v := .int .i64 i) rfl; have c22 := hr2.cell (i := 2) (v := .slice pA pl.length pc) rfl; clear hr2)
            go_roundw
            case rel => exact (BYTE.out wo w2 bk cap 2 96 _ HDO.out (Below.refl _ _) (by rw [← HC.out]; rfl) HO.out hgrow (by decide) HST.out rfl).1
            case measure => exact (BYTE.out wo w2 bk cap 2 96 _ HDO.out (Below.refl _ _) (by rw [← HC.out]; rfl) HO.out hgrow (by decide) HST.out rfl).2
          · go_wp2_with (at_builtin; refine wpList_append_own_at _ rfl (.tmp 62) (.tmp 64) 46 rfl g 5 iB (.int .u8 0) 1 1 Try.underlying46 hiB hB0 hB1 hB2 rfl (by decide) (.slice pA pl.length pc) pl.length (Lib.byteCells pl) rfl (HDO.out.po.alloc _) ⟨wo.heap.size, 0, none⟩ 1 1 [.int .u8 126] rfl rfl (cells_of' _ _ _ _ rfl (by simp)) (by simp [Value.oneCell']) (by unfold maxLen; omega) (by omega) (by simp; omega) ?_; intro v' w2 hown' hgrow _ hat; obtain ⟨bk, cap, rfl⟩ := own_some hown' (by omega); have HO := Lib.hid hown'; have hr2 := (HDO.out.row.alloc _).grown hgrow (fun e => HDO.out.pfar e.symm); have f12 := hr2.free 1; have f22 := hr2.free 2; have c12 := hr2.cell (i := 1) (v := .int .i64 i) rfl; have c22 := hr2.cell (i := 2) (v := .slice pA pl.length pc) rfl; clear hr2)
            go_roundw
            case rel => exact (BYTE.out wo w2 bk cap 2 126 _ HDO.out (Below.refl _ _) (by rw [← HC.out]; rfl) HO.out hgrow (by decide) HST.out rfl).1
            case measure => exact (BYTE.out wo w2 bk cap 2 126 _ HDO.out (Below.refl _ _) (by rw [← HC.out]; rfl) HO.out hgrow (by decide) HST.out rfl).2
          · go_wp2_with (at_builtin; refine wpList_append_own_at _ rfl (.tmp 62) (.tmp 64) 46 rfl g 5 iB (.int .u8 0) 1 1 Try.underlying46 hiB hB0 hB1 hB2 rfl (by decide) (.slice pA pl.length pc) pl.length (Lib.byteCells pl) rfl (HDO.out.po.alloc _) ⟨wo.heap.size, 0, none⟩ 1 1 [.int .u8 91] rfl rfl (cells_of' _ _ _ _ rfl (by simp)) (by simp [Value.oneCell']) (by unfold maxLen; omega) (by omega) (by simp; omega) ?_; intro v' w2 hown' hgrow _ hat; obtain ⟨bk, cap, rfl⟩ := own_some hown' (by omega); have HO := Lib.hid hown'; have hr2 := (HDO.out.row.alloc _).grown hgrow (fun e => HDO.out.pfar e.symm); have f12 := hr2.free 1; have f22 := hr2.free 2; have c12 := hr2.cell (i := 1) (v := .int .i64 i) rfl; have c22 := hr2.cell (i := 2) (v := .slice pA pl.length pc) rfl; clear hr2)
            go_roundw
            case rel => exact (BYTE.out wo w2 bk cap 2 91 _ HDO.out (Below.refl _ _) (by rw [← HC.out]; rfl) HO.out hgrow (by decide) HST.out rfl).1
            case measure => exact (BYTE.out wo w2 bk cap 2 91 _ HDO.out (Below.refl _ _) (by rw [← HC.out]; rfl) HO.out hgrow (by decide) HST.out rfl).2
        · by_cases hbv : b = 96
          · have hc : c = 96 := by rw [hcl, hbv]; rfl
            have HC := Lib.hid hcl
            subst hc
            have hnx : text.length ≤ i + 1 ∨ ∃ (c' : Nat) (h : i + 1 < text.length), (ByteArray.mk text.toArray)[i + 1].toNat = c' ∧ c' ≠ 96 := by
              rcases Nat.lt_or_ge (i + 1) text.length with hx | hx
              · refine .inr ⟨_, hx, rfl, fun e => hD ⟨by rw [hbv]; decide, ?_⟩⟩
                rw [← HRD.out, List.head?_drop, List.getElem?_eq_getElem hx, hbv]
                exact congrArg some (UInt8.toNat_inj.1 e)
              · exact .inl hx
            have HND : Hid (¬(special b = true ∧ r.head? = some b)) := Lib.hid hD
            have HBV := Lib.hid hbv
            have hbn : True := trivial
            have HBN := Lib.hid hbn
            clear hD hcl hbv hbn
            have hsl := fun wx => run_slice_string_l (P := Try.prog) wx 9 ⟨text.toArray⟩ Try.underlying9 .i64 ((i : Int) + 1) (by omega) (by simp [ByteArray.size]; omega)
            have hsz : (ByteArray.mk text.toArray).size = text.length := by simp [ByteArray.size]
            have hi1 : ((i : Int) + 1).toNat = i + 1 := by omega
            simp only [hi1, hsz, cut_end, HRD.out] at hsl
            clear hsz
            have HMS2 : Hid (mstep (text.drop i) = if (mathT r).length = r.length then none else some (2, mathT r, (mathT r).length + 2)) := Lib.hid (by rw [HMS.out, if_neg HND.out, if_pos HBV.out])
            by_cases hm : (mathT r).length = r.length
            · have HM := Lib.hid hm
              have HBAD : Hid (marksS text = ([], i, 45)) := Lib.hid (HRO.out.trans (mrest_bad hil (by rw [HMS2.out, if_pos hm])))
              clear hm hi1
              rcases hnx with hnx | ⟨c', hil1, hce1, hne⟩
              · have q1 : decide ((i : Int) + 1 < (text.length : Int)) = false := decide_eq_false (by omega)
                go_wp2_with (go_at_call 10; (refine (index96 _ r).mono ?_; rw [if_pos HM.out]; rintro e w' ⟨rfl, rfl⟩))
                go_region
                go_wp2_with fail
                refine bodyPost_ret (v := .tuple #[.slice none 0 0, .int .i64 (i : Nat), .int .i64 45]) (by simp [results, Try.results6, go_sem]) rfl ?_
                rw [HBAD.out]
                exact ⟨_, rfl, Rds.nil_, by rw [HG.out]; exact HBO.out.trans ((Below.refl _ _).drew)⟩
              · have q1 : decide ((i : Int) + 1 < (text.length : Int)) = true := decide_eq_true (by omega)
                have q2 : ((c' : Int) == 96) = false := by rw [beq_eq_false_iff_ne]; omega
                clear hne
                go_wp2_with (go_at_call 10; (refine (index96 _ r).mono ?_; rw [if_pos HM.out]; rintro e w' ⟨rfl, rfl⟩))
                go_region
                go_wp2_with fail
                refine bodyPost_ret (v := .tuple #[.slice none 0 0, .int .i64 (i : Nat), .int .i64 45]) (by simp [results, Try.results6, go_sem]) rfl ?_
                rw [HBAD.out]
                exact ⟨_, rfl, Rds.nil_, by rw [HG.out]; exact HBO.out.trans ((Below.refl _ _).drew)⟩
            · have HM := Lib.hid hm
              have hst : mstep (text.drop i) = some (2, mathT r, (mathT r).length + 2) := by rw [HMS2.out, if_neg hm]
              have hpos := (mstep_pos hst).2
              rw [List.length_drop] at hpos
              have HST := Lib.hid hst
              have hmx : r.take (mathT r).length = mathT r := (List.prefix_iff_eq_take.1 (List.takeWhile_prefix _)).symm
              obtain ⟨N, hN⟩ : ∃ N, (mathT r).length = N := ⟨_, rfl⟩
              rw [hN] at hpos hmx HM HST
              have hs2 := fun wx => run_slice_string (P := Try.prog) wx 9 ⟨text.toArray⟩ .i64 .i64 ((i : Int) + 1) ((i : Int) + 1 + (N : Int)) Try.underlying9 (by omega) (by omega) (by simp [ByteArray.size]; omega)
              have hi2 : ((i : Int) + 1 + (N : Int)).toNat = i + 1 + N := by omega
              simp only [hi1, hi2, cut_text, HRD.out, show i + 1 + N - (i + 1) = N by omega, hmx] at hs2
              have HNN := Lib.hid hN
              have y1 : IntKind.i64.wrap ((i : Int) + 1) = (i : Int) + 1 := IntWalk.i64_in _ (by omega)
              have y2 : IntKind.i64.wrap ((i : Int) + 1 + (N : Int)) = (i : Int) + 1 + (N : Int) := IntWalk.i64_in _ (by omega)
              have y3 : IntKind.i64.wrap ((i : Int) + (N : Int)) = (i : Int) + (N : Int) := IntWalk.i64_in _ (by omega)
              have y4 : IntKind.i64.wrap ((i : Int) + (N : Int) + 2) = (i : Int) + (N : Int) + 2 := IntWalk.i64_in _ (by omega)
              have y5 : decide ((N : Int) < 0) = false := decide_eq_false (by omega)
              clear hm hst hN hmx hi1 hi2
              rcases hnx with hnx | ⟨c', hil1, hce1, hne⟩
              · have q1 : decide ((i : Int) + 1 < (text.length : Int)) = false := decide_eq_false (by omega)
                exfalso
                omega
              · have q1 : decide ((i : Int) + 1 < (text.length : Int)) = true := decide_eq_true (by omega)
                have q2 : ((c' : Int) == 96) = false := by rw [beq_eq_false_iff_ne]; omega
                clear hne
                go_wp2_with (go_at_call 10; (refine (index96 _ r).mono ?_; rw [HNN.out, if_neg HM.out]; rintro e w' ⟨rfl, rfl⟩))
                go_region_with (go_at_call 11; (refine (mark_any wo.drew g text pl i ms (.slice pA pl.length pc) mv 2 ((i : Int) + (N : Int) + 2) (mathT r) (HDO.out.below (Below.refl _ _).drew) (by omega) (by omega)).mono ?_; rintro e w4 ⟨rfl, pv', mv', h4, hb4⟩; have H4 := Lib.hid h4; have HB4 := Lib.hid hb4))
                all_goals
                  go_wp2_with fail
                  go_roundw
                  case rel => exact (OTHER.out _ _ _ _ _ _ _ (by omega) H4.out ((Below.refl _ _).drew.trans HB4.out) (by decide) HST.out (by omega)).1
                  case measure => exact (OTHER.out _ _ _ _ _ _ _ (by omega) H4.out ((Below.refl _ _).drew.trans HB4.out) (by decide) HST.out (by omega)).2
          · have h96 := hbv
            clear hbv
            by_cases hbv : b = 126
            · have hc : c = 126 := by rw [hcl, hbv]; rfl
              have HC := Lib.hid hcl
              subst hc
              have hnx : text.length ≤ i + 1 ∨ ∃ (c' : Nat) (h : i + 1 < text.length), (ByteArray.mk text.toArray)[i + 1].toNat = c' ∧ c' ≠ 126 := by
                rcases Nat.lt_or_ge (i + 1) text.length with hx | hx
                · refine .inr ⟨_, hx, rfl, fun e => hD ⟨by rw [hbv]; decide, ?_⟩⟩
                  rw [← HRD.out, List.head?_drop, List.getElem?_eq_getElem hx, hbv]
                  exact congrArg some (UInt8.toNat_inj.1 e)
                · exact .inl hx
              have HND : Hid (¬(special b = true ∧ r.head? = some b)) := Lib.hid hD
              have HBV := Lib.hid hbv
              have hbn : b ≠ 96 := by rw [hbv]; decide
              have HBN := Lib.hid hbn
              clear hD hcl hbv hbn
              have HMS2 : Hid (mstep (text.drop i) = if refW r = 0 ∨ refT r = [] then none else some (3, refT r, 1 + refW r + (refT r).length)) := Lib.hid (by rw [HMS.out, if_neg HND.out, if_neg HBN.out, if_pos HBV.out])
              by_cases hz : refW r = 0 ∨ refT r = []
              · have HZ := Lib.hid hz
                have HBAD : Hid (marksS text = ([], i, 45)) := Lib.hid (HRO.out.trans (mrest_bad hil (by rw [HMS2.out, if_pos hz])))
                clear hz
                rcases hnx with hnx | ⟨c', hil1, hce1, hne⟩
                · have q1 : decide ((i : Int) + 1 < (text.length : Int)) = false := decide_eq_false (by omega)
                  go_wp2_with (go_at_call 12; (refine (refer_no HDO.out hil (by omega) (by omega) (by omega) HRD.out HZ.out).mono ?_; rintro e w4 ⟨rfl, hb4, h4⟩; have H4 := Lib.hid h4; have HB4 := Lib.hid hb4; have c14 := H4.out.row.cell (i := 1) (v := .int .i64 i) rfl))
                  go_region
                  go_wp2_with fail
                  refine bodyPost_ret (v := .tuple #[.slice none 0 0, .int .i64 (i : Nat), .int .i64 45]) (by simp [results, Try.results6, go_sem]) rfl ?_
                  rw [HBAD.out]
                  exact ⟨_, rfl, Rds.nil_, by rw [HG.out]; exact HBO.out.trans (HB4.out.drew)⟩
                · have q1 : decide ((i : Int) + 1 < (text.length : Int)) = true := decide_eq_true (by omega)
                  have q2 : ((c' : Int) == 126) = false := by rw [beq_eq_false_iff_ne]; omega
                  clear hne
                  go_wp2_with (go_at_call 12; (refine (refer_no HDO.out hil (by omega) (by omega) (by omega) HRD.out HZ.out).mono ?_; rintro e w4 ⟨rfl, hb4, h4⟩; have H4 := Lib.hid h4; have HB4 := Lib.hid hb4; have c14 := H4.out.row.cell (i := 1) (v := .int .i64 i) rfl))
                  go_region
                  go_wp2_with fail
                  refine bodyPost_ret (v := .tuple #[.slice none 0 0, .int .i64 (i : Nat), .int .i64 45]) (by simp [results, Try.results6, go_sem]) rfl ?_
                  rw [HBAD.out]
                  exact ⟨_, rfl, Rds.nil_, by rw [HG.out]; exact HBO.out.trans (HB4.out.drew)⟩
              · have HZ := Lib.hid hz
                have HST : Hid (mstep (text.drop i) = some (3, refT r, 1 + refW r + (refT r).length)) := Lib.hid (by rw [HMS2.out, if_neg hz])
                have HW : Hid (2 ≤ 1 + refW r + (refT r).length) := Lib.hid (by
                  have h1 : refW r ≠ 0 := fun e => hz (.inl e)
                  omega)
                clear hz
                rcases hnx with hnx | ⟨c', hil1, hce1, hne⟩
                · have q1 : decide ((i : Int) + 1 < (text.length : Int)) = false := decide_eq_false (by omega)
                  exfalso
                  have h1 := (mstep_pos HST.out).2
                  have h2 := HW.out
                  rw [List.length_drop] at h1
                  omega
                · have q1 : decide ((i : Int) + 1 < (text.length : Int)) = true := decide_eq_true (by omega)
                  have q2 : ((c' : Int) == 126) = false := by rw [beq_eq_false_iff_ne]; omega
                  clear hne
                  go_wp2_with (go_at_call 12; (refine (refer_yes HDO.out hil (by omega) (by omega) (by omega) HRD.out HZ.out).mono ?_; rintro e w4 ⟨rfl, hb4, pv', mv', h4⟩; have H4 := Lib.hid h4; have HB4 := Lib.hid hb4))
                  go_roundw
                  case rel => exact (OTHER.out _ _ _ _ _ _ _ rfl H4.out HB4.out (by decide) HST.out (by have := HW.out; omega)).1
                  case measure => exact (OTHER.out _ _ _ _ _ _ _ rfl H4.out HB4.out (by decide) HST.out (by have := HW.out; omega)).2
            · have h126 := hbv
              clear hbv
              by_cases hbv : b = 91
              · have hc : c = 91 := by rw [hcl, hbv]; rfl
                have HC := Lib.hid hcl
                subst hc
                have hnx : text.length ≤ i + 1 ∨ ∃ (c' : Nat) (h : i + 1 < text.length), (ByteArray.mk text.toArray)[i + 1].toNat = c' ∧ c' ≠ 91 := by
                  rcases Nat.lt_or_ge (i + 1) text.length with hx | hx
                  · refine .inr ⟨_, hx, rfl, fun e => hD ⟨by rw [hbv]; decide, ?_⟩⟩
                    rw [← HRD.out, List.head?_drop, List.getElem?_eq_getElem hx, hbv]
                    exact congrArg some (UInt8.toNat_inj.1 e)
                  · exact .inl hx
                have HND : Hid (¬(special b = true ∧ r.head? = some b)) := Lib.hid hD
                have HBV := Lib.hid hbv
                have hbn : b ≠ 96 ∧ b ≠ 126 := by rw [hbv]; decide
                have HBN := Lib.hid hbn
                clear hD hcl hbv hbn
                by_cases hz : citeN r = 0
                · have HZ := Lib.hid hz
                  have HST : Hid (mstep (text.drop i) = some (1, [b], 1)) := Lib.hid (by rw [HMS.out, if_neg HND.out, if_neg HBN.out.1, if_neg HBN.out.2, if_neg (fun e => e.2 hz)])
                  clear hz
                  rcases hnx with hnx | ⟨c', hil1, hce1, hne⟩
                  · have q1 : decide ((i : Int) + 1 < (text.length : Int)) = false := decide_eq_false (by omega)
                    go_wp2_with (first | (go_at_call 13; (refine (cite_no HDO.out hil (by omega) (by omega) (by omega) HRD.out HZ.out).mono ?_; rintro e w4 ⟨rfl, hb4, h4⟩; have H4 := Lib.hid h4; have HB4 := Lib.hid hb4; have hlt4 := H4.out.row.lt; have c14 := H4.out.row.cell (i := 1) (v := .int .i64 i) rfl; have c24 := H4.out.row.cell (i := 2) (v := .slice pA pl.length pc) rfl; have f14 := H4.out.row.free 1; have f24 := H4.out.row.free 2)) | (at_builtin; refine wpList_append_own_at _ rfl (.tmp 132) (.tmp 134) 46 rfl g 5 iB (.int .u8 0) 1 1 Try.underlying46 hiB hB0 hB1 hB2 rfl (by decide) (.slice pA pl.length pc) pl.length (Lib.byteCells pl) rfl (H4.out.po.alloc _) ⟨w4.heap.size, 0, none⟩ 1 1 [.int .u8 91] rfl rfl (cells_of' _ _ _ _ rfl (by simp)) (by simp [Value.oneCell']) (by unfold maxLen; omega) (by omega) (by simp; omega) ?_; intro v' w2 hown' hgrow _ hat; obtain ⟨bk, cap, rfl⟩ := own_some hown' (by omega); have HO := Lib.hid hown'; have hr2 := (H4.out.row.alloc _).grown hgrow (fun e => H4.out.pfar e.symm); have f12 := hr2.free 1; have f22 := hr2.free 2; have c12 := hr2.cell (i := 1) (v := .int .i64 i) rfl; have c22 := hr2.cell (i := 2) (v := .slice pA pl.length pc) rfl; clear hr2))
                    go_roundw
                    case rel => exact (BYTE.out w4 w2 bk cap 1 91 _ H4.out HB4.out (by rw [← HC.out]; rfl) HO.out hgrow (by decide) HST.out rfl).1
                    case measure => exact (BYTE.out w4 w2 bk cap 1 91 _ H4.out HB4.out (by rw [← HC.out]; rfl) HO.out hgrow (by decide) HST.out rfl).2
                  · have q1 : decide ((i : Int) + 1 < (text.length : Int)) = true := decide_eq_true (by omega)
                    have q2 : ((c' : Int) == 91) = false := by rw [beq_eq_false_iff_ne]; omega
                    clear hne
                    go_wp2_with (first | (go_at_call 13; (refine (cite_no HDO.out hil (by omega) (by omega) (by omega) HRD.out HZ.out).mono ?_; rintro e w4 ⟨rfl, hb4, h4⟩; have H4 := Lib.hid h4; have HB4 := Lib.hid hb4; have hlt4 := H4.out.row.lt; have c14 := H4.out.row.cell (i := 1) (v := .int .i64 i) rfl; have c24 := H4.out.row.cell (i := 2) (v := .slice pA pl.length pc) rfl; have f14 := H4.out.row.free 1; have f24 := H4.out.row.free 2)) | (at_builtin; refine wpList_append_own_at _ rfl (.tmp 132) (.tmp 134) 46 rfl g 5 iB (.int .u8 0) 1 1 Try.underlying46 hiB hB0 hB1 hB2 rfl (by decide) (.slice pA pl.length pc) pl.length (Lib.byteCells pl) rfl (H4.out.po.alloc _) ⟨w4.heap.size, 0, none⟩ 1 1 [.int .u8 91] rfl rfl (cells_of' _ _ _ _ rfl (by simp)) (by simp [Value.oneCell']) (by unfold maxLen; omega) (by omega) (by simp; omega) ?_; intro v' w2 hown' hgrow _ hat; obtain ⟨bk, cap, rfl⟩ := own_some hown' (by omega); have HO := Lib.hid hown'; have hr2 := (H4.out.row.alloc _).grown hgrow (fun e => H4.out.pfar e.symm); have f12 := hr2.free 1; have f22 := hr2.free 2; have c12 := hr2.cell (i := 1) (v := .int .i64 i) rfl; have c22 := hr2.cell (i := 2) (v := .slice pA pl.length pc) rfl; clear hr2))
                    go_roundw
                    case rel => exact (BYTE.out w4 w2 bk cap 1 91 _ H4.out HB4.out (by rw [← HC.out]; rfl) HO.out hgrow (by decide) HST.out rfl).1
                    case measure => exact (BYTE.out w4 w2 bk cap 1 91 _ H4.out HB4.out (by rw [← HC.out]; rfl) HO.out hgrow (by decide) HST.out rfl).2
                · have HZ := Lib.hid hz
                  have HST : Hid (mstep (text.drop i) = some (4, r.take (citeN r), citeN r + 2)) := Lib.hid (by rw [HMS.out, if_neg HND.out, if_neg HBN.out.1, if_neg HBN.out.2, if_pos ⟨HBV.out, hz⟩])
                  clear hz
                  rcases hnx with hnx | ⟨c', hil1, hce1, hne⟩
                  · have q1 : decide ((i : Int) + 1 < (text.length : Int)) = false := decide_eq_false (by omega)
                    exfalso
                    have h1 := (mstep_pos HST.out).2
                    rw [List.length_drop] at h1
                    omega
                  · have q1 : decide ((i : Int) + 1 < (text.length : Int)) = true := decide_eq_true (by omega)
                    have q2 : ((c' : Int) == 91) = false := by rw [beq_eq_false_iff_ne]; omega
                    clear hne
                    go_wp2_with (go_at_call 13; (refine (cite_yes HDO.out hil (by omega) (by omega) (by omega) HRD.out HZ.out).mono ?_; rintro e w4 ⟨rfl, hb4, pv', mv', h4⟩; have H4 := Lib.hid h4; have HB4 := Lib.hid hb4))
                    go_roundw
                    case rel => exact (OTHER.out _ _ _ _ _ _ _ rfl H4.out HB4.out (by decide) HST.out (by omega)).1
                    case measure => exact (OTHER.out _ _ _ _ _ _ _ rfl H4.out HB4.out (by decide) HST.out (by omega)).2
              · have h91 := hbv
                clear hbv
                have HST : Hid (mstep (text.drop i) = some (1, [b], 1)) := Lib.hid (by rw [HMS.out, if_neg hD, if_neg h96, if_neg h126, if_neg (fun e => h91 e.1)])
                have n1 : ((c : Int) == 96) = false := by rw [beq_eq_false_iff_ne]; intro e; exact h96 (UInt8.toNat_inj.1 (by rw [← hcl]; simpa using (by omega : c = 96)))
                have n2 : ((c : Int) == 126) = false := by rw [beq_eq_false_iff_ne]; intro e; exact h126 (UInt8.toNat_inj.1 (by rw [← hcl]; simpa using (by omega : c = 126)))
                have n3 : ((c : Int) == 91) = false := by rw [beq_eq_false_iff_ne]; intro e; exact h91 (UInt8.toNat_inj.1 (by rw [← hcl]; simpa using (by omega : c = 91)))
                have HC := Lib.hid hcl
                clear hD h96 h126 h91 hcl
                go_wp2_with (at_builtin; refine wpList_append_own_at _ rfl (.tmp 132) (.tmp 134) 46 rfl g 5 iB (.int .u8 0) 1 1 Try.underlying46 hiB hB0 hB1 hB2 rfl (by decide) (.slice pA pl.length pc) pl.length (Lib.byteCells pl) rfl (HDO.out.po.alloc _) ⟨wo.heap.size, 0, none⟩ 1 1 [.int .u8 c] rfl rfl (cells_of' _ _ _ _ rfl (by simp)) (by simp [Value.oneCell']) (by unfold maxLen; omega) (by omega) (by simp; omega) ?_; intro v' w2 hown' hgrow _ hat; obtain ⟨bk, cap, rfl⟩ := own_some hown' (by omega); have HO := Lib.hid hown'; have hr2 := (HDO.out.row.alloc _).grown hgrow (fun e => HDO.out.pfar e.symm); have f12 := hr2.free 1; have f22 := hr2.free 2; have c12 := hr2.cell (i := 1) (v := .int .i64 i) rfl; have c22 := hr2.cell (i := 2) (v := .slice pA pl.length pc) rfl; clear hr2)
                go_roundw
                case rel => exact (BYTE.out wo w2 bk cap 1 c _ HDO.out (Below.refl _ _) (by rw [HC.out]) HO.out hgrow (by decide) HST.out rfl).1
                case measure => exact (BYTE.out wo w2 bk cap 1 c _ HDO.out (Below.refl _ _) (by rw [HC.out]) HO.out hgrow (by decide) HST.out rfl).2
      · obtain rfl : i = text.length := by omega
        have HEND : Hid (marksS text = (flatM pl ms, 0, 0)) := Lib.hid (by rw [HRO.out, mrest_end (Nat.le_refl _)])
        go_wp2_with (go_at_call 14; (refine (flush_any wo g text pl _ ms _ mv HDO.out (by omega) (by omega)).mono ?_; rintro e w4 ⟨rfl, pv', mv', h4, hb4⟩; have H4 := Lib.hid h4; have HB4 := Lib.hid hb4; have c34 := H4.out.row.cell (i := 3) (v := mv') rfl))
        refine bodyPost_ret (v := .tuple #[mv', .int .i64 0, .int .i64 0]) (by simp [results, Try.results6, go_sem]) rfl ?_
        rw [HEND.out]
        exact ⟨_, rfl, Rds.of_own H4.out.mo, by rw [HG.out]; exact HBO.out.trans HB4.out⟩
end Go.Proofs.Ythkeggmloajapaa
