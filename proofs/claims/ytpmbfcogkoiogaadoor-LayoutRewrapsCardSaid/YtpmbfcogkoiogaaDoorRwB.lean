/- The printer: what was printed; what is no cells stays (printed by gen_prntextk.py). The program's Rewrap (printed by gen_rewfn.py). LayoutRewraps: Rewrap of any text is the reference's; it has the same words, and once more it is the same. -/
import Derived.Test.YtpmbfcogkoiogaaDoorPrnA
import Derived.Test.YtpmbfcogkoiogaaDoorRangeA
import Derived.Test.YtpmbfcogkoiogaaDoorRwA
import Derived.Test.YtpmbfcogkoiogaaDoorDocTA
import Derived.Test.YtpmbfcogkoiogaaDoorRrA
import Derived.Test.YtpmbfcogkoiogaaDoorLayParA
section
namespace Go.Proofs.YtpmbfcogkoiogaaDoor
open Go.RowKit
theorem ko_drew (w : World) : KeepsOthers w w.drew := ⟨Nat.le_refl _, fun _ _ h _ => h⟩
theorem ko_freeze (w : World) (p : Addr) (n : Nat) : KeepsOthers w (w.freeze p n) := by
  unfold World.freeze
  split
  · exact KeepsOthers.refl _
  · refine ⟨by simp, fun k o hk ho => ?_⟩
    simp only [Array.getElem?_modify]
    split
    · rw [hk]
      cases o <;> first | rfl | (simp [Obj.isCells] at ho)
    · exact hk
set_option maxHeartbeats 2000000 in
set_option maxRecDepth 100000 in
theorem prn_string0K (w : World) (b : Nat) (p : Value) (W D : Int) (hbk : w.heap[b]? = some (.cells #[p, .slice none 0 0, .int .i64 W, .int .i64 D] 99 (0, 0))) :
    Calls Tryd.prog 61 #[.pointer (some ⟨b, 0, none⟩)] w fun e w' => e = .returned (.string ⟨#[]⟩) ∧ Below b w w' ∧ KeepsOthers w w' := by
  have hUS := fun (W : World) (q : Option Addr) => Lib.run_unsafeString_none (P := Tryd.prog) W 151 3 9 q
  have c1 : w.drew.cell? ⟨b, 1, none⟩ = some (.slice none 0 0) := by
    have : w.drew.heap[b]? = _ := hbk
    rw [Lib.cell_of_heap this]; rfl
  have hSD : (Builtin.unsafeSliceData_ #[95] 151 #[.slice none 0 0]).run Tryd.prog w.drew = .ok (.pointer none) w.drew := rfl
  clear hbk
  go_enter Tryd.func61, Tryd.ntmps61
  go_wp2
  go_region
  all_goals (go_wp2; go_ret; exact ⟨rfl, Below.drew (Below.refl b w), ko_drew w⟩)
set_option maxHeartbeats 2000000 in
set_option maxRecDepth 100000 in
theorem prn_string1K (w : World) (b g : Nat) (p : Value) (W D : Int) (cur : Array Value) (fz : Nat × Nat) (hbk : w.heap[b]? = some (.cells #[p, .slice (some ⟨g, 0, none⟩) 0 0, .int .i64 W, .int .i64 D] 99 (0, 0))) (hg : w.heap[g]? = some (.cells cur 5 fz)) :
    Calls Tryd.prog 61 #[.pointer (some ⟨b, 0, none⟩)] w fun e w' => e = .returned (.string ⟨#[]⟩) ∧ Below b w w' ∧ KeepsOthers w w' := by
  have hUS := fun (W : World) (q : Option Addr) => Lib.run_unsafeString_none (P := Tryd.prog) W 151 3 9 q
  have hlt : b < w.heap.size := (Array.getElem?_eq_some_iff.1 hbk).1
  have c1 : w.drew.cell? ⟨b, 1, none⟩ = some (.slice (some ⟨g, 0, none⟩) 0 0) := by
    have : w.drew.heap[b]? = _ := hbk
    rw [Lib.cell_of_heap this]; rfl
  have hSD : (Builtin.unsafeSliceData_ #[95] 151 #[.slice (some ⟨g, 0, none⟩) 0 0]).run Tryd.prog w.drew = .ok (.pointer (some ⟨w.drew.heap.size, 0, none⟩)) (w.drew.alloc (.view ⟨g, 0, none⟩ 5)) :=
    Lib.run_unsafeSliceData_zero w.drew _ _ 5 Tryd.underlying151 ⟨g, 0, none⟩ 0 (5, cur.size) (by have hg' : w.drew.heap[g]? = some (.cells cur 5 fz) := hg; simp [World.shape?, hg'])
  have c2 : (w.drew.alloc (.view ⟨g, 0, none⟩ 5)).cell? ⟨b, 1, none⟩ = some (.slice (some ⟨g, 0, none⟩) 0 0) := by
    have : (w.drew.alloc (.view ⟨g, 0, none⟩ 5)).heap[b]? = _ := (Lib.alloc_old w.drew _ b hlt).trans hbk
    rw [Lib.cell_of_heap this]; rfl
  have c3 : (w.alloc (.view ⟨g, 0, none⟩ 5)).drew.cell? ⟨b, 1, none⟩ = some (.slice (some ⟨g, 0, none⟩) 0 0) := c2
  have c0 : w.cell? ⟨b, 1, none⟩ = some (.slice (some ⟨g, 0, none⟩) 0 0) := c1
  clear hbk hg
  go_enter Tryd.func61, Tryd.ntmps61
  go_wp2
  go_region
  all_goals (go_wp2; go_ret; exact ⟨rfl, (Below.drew (Below.refl b w)).alloc (Nat.le_of_lt hlt) _, (ko_drew w).trans (KeepsOthers.alloc _ _)⟩)
set_option maxHeartbeats 2000000 in
set_option maxRecDepth 100000 in
theorem prn_string2K (w : World) (b g cap : Nat) (p : Value) (W D : Int) (hc0 : cap ≠ 0) (hbk : w.heap[b]? = some (.cells #[p, .slice (some ⟨g, 0, none⟩) 0 cap, .int .i64 W, .int .i64 D] 99 (0, 0))) :
    Calls Tryd.prog 61 #[.pointer (some ⟨b, 0, none⟩)] w fun e w' => e = .returned (.string ⟨#[]⟩) ∧ Below b w w' ∧ KeepsOthers w w' := by
  have hUS := fun (W : World) (q : Option Addr) => Lib.run_unsafeString_none (P := Tryd.prog) W 151 3 9 q
  have c1 : w.drew.cell? ⟨b, 1, none⟩ = some (.slice (some ⟨g, 0, none⟩) 0 cap) := by
    have : w.drew.heap[b]? = _ := hbk
    rw [Lib.cell_of_heap this]; rfl
  have hSD : (Builtin.unsafeSliceData_ #[95] 151 #[.slice (some ⟨g, 0, none⟩) 0 cap]).run Tryd.prog w.drew = .ok (.pointer (some ⟨g, 0, none⟩)) w.drew :=
    Lib.run_unsafeSliceData_row _ _ _ _ _ _ hc0
  clear hc0 hbk
  go_enter Tryd.func61, Tryd.ntmps61
  go_wp2
  go_region
  all_goals (go_wp2; go_ret; exact ⟨rfl, Below.drew (Below.refl b w), ko_drew w⟩)
set_option maxHeartbeats 2000000 in
set_option maxRecDepth 100000 in
theorem prn_stringK (w : World) (b : Nat) (l : List UInt8) (W D : Int) (h : Prn w b l W D) :
    Calls Tryd.prog 61 #[.pointer (some ⟨b, 0, none⟩)] w fun e w' => e = .returned (.string ⟨l.toArray⟩) ∧ Below b w w' ∧ KeepsOthers w w' := by
  obtain ⟨p, v, hbk, hown, -⟩ : ∃ p, PrnC w b p l W D := by
    rcases h with h | h
    · exact ⟨_, h⟩
    · exact ⟨_, h⟩
  clear h
  cases l with
  | nil =>
    rcases hown.2 with ⟨rfl, _⟩ | ⟨g, cap, cur, fz, rfl, hbg, hg, _⟩
    · exact prn_string0K w b p W D hbk
    · by_cases hc0 : cap = 0
      · subst hc0
        exact prn_string1K w b g p W D cur fz hbk hg
      · exact prn_string2K w b g cap p W D hc0 hbk
  | cons x r =>
    obtain ⟨l, hl⟩ : ∃ l, x :: r = l := ⟨_, rfl⟩
    have h0 : l ≠ [] := by rw [← hl]; simp
    rw [hl] at hown ⊢
    clear hl x r
    have hl0 : l.length ≠ 0 := by simpa using h0
    obtain ⟨g, cap, cur, fz, rfl, hbg, hg, hfz, hnc, hcm, hcs, htake⟩ : ∃ g cap cur fz, v = .slice (some ⟨g, 0, none⟩) l.length cap ∧ b ≤ g ∧ w.heap[g]? = some (.cells cur 5 fz) ∧ fz.2 ≤ l.length * 1 ∧ l.length ≤ cap ∧ cap ≤ maxLen ∧ cur.size = cap * 1 ∧ cur.toList.take (l.length * 1) = Lib.byteCells l := by
      rcases hown.2 with ⟨_, hz⟩ | ⟨g, cap, cur, fz, hv, r⟩
      · exact absurd hz hl0
      · exact ⟨g, cap, cur, fz, hv, r⟩
    have c1 : w.drew.cell? ⟨b, 1, none⟩ = some (.slice (some ⟨g, 0, none⟩) l.length cap) := by
      have : w.drew.heap[b]? = _ := hbk
      rw [Lib.cell_of_heap this]; rfl
    have hSD : (Builtin.unsafeSliceData_ #[95] 151 #[.slice (some ⟨g, 0, none⟩) l.length cap]).run Tryd.prog w.drew = .ok (.pointer (some ⟨g, 0, none⟩)) w.drew :=
      Lib.run_unsafeSliceData_row _ _ _ _ _ _ (by omega)
    have hUS : (Builtin.unsafeString_ #[151, 3] 9 #[.pointer (some ⟨g, 0, none⟩), .int .i64 l.length]).run Tryd.prog w.drew = .ok (.string ⟨l.toArray⟩) (w.drew.freeze ⟨g, 0, none⟩ l.length) := by
      refine Lib.run_unsafeString_row w.drew 151 3 9 5 Tryd.underlying151 (by kernel_rfl) g cur.size (by have hg' : w.drew.heap[g]? = some (.cells cur 5 fz) := hg; simp [World.shape?, hg']) l h0 (by omega) (by unfold maxLen at hcm; omega) ?_
      intro j x hx
      exact hown.cells (g := g) rfl j (.int .u8 x.toNat) (by simp [Lib.byteCells, hx])
    clear hbk hg hown hfz htake hcs
    go_enter Tryd.func61, Tryd.ntmps61
    go_wp2
    go_region
    all_goals (go_wp2; go_ret; exact ⟨rfl, Lib.below_freeze (Below.drew (Below.refl b w)) (p := ⟨g, 0, none⟩) hbg _, (ko_drew w).trans (ko_freeze _ _ _)⟩)
set_option maxHeartbeats 2000000 in
set_option maxRecDepth 100000 in
theorem prn_textK (w : World) (b : Nat) (l : List UInt8) (W D : Int) (h : Prn w b l W D) (hl : l.length ≤ 100000000) :
    Calls Tryd.prog 53 #[.pointer (some ⟨b, 0, none⟩)] w fun e w' => e = .returned (.tuple #[.string ⟨(if 40000 < l.length then [] else l).toArray⟩, .int .i64 (if 40000 < l.length then 15 else 0)]) ∧ Below b w w' ∧ KeepsOthers w w' := by
  have H := Lib.hid h
  have hlt := h.lt
  clear h
  by_cases hb : 40000 < l.length
  · rw [if_pos hb, if_pos hb]
    have e1 : decide ((40000 : Int) < (l.length : Int)) = true := decide_eq_true (by omega)
    have e2 : decide (40000 < l.length) = true := decide_eq_true hb
    clear hb
    go_enter Tryd.func53, Tryd.ntmps53
    go_wp2_with fail
    refine (prn_len _ b l W D l.length rfl H.out).mono ?_
    rintro e w1 ⟨rfl, rfl⟩
    go_wp2_with fail
    go_ret2
    exact ⟨rfl, Below.refl _ _, KeepsOthers.refl _⟩
  · rw [if_neg hb, if_neg hb]
    have e1 : decide ((40000 : Int) < (l.length : Int)) = false := decide_eq_false (by omega)
    have e2 : decide (40000 < l.length) = false := decide_eq_false hb
    clear hb
    go_enter Tryd.func53, Tryd.ntmps53
    go_wp2_with fail
    refine (prn_len _ b l W D l.length rfl H.out).mono ?_
    rintro e w1 ⟨rfl, rfl⟩
    go_wp2_with fail
    refine (prn_stringK _ b l W D H.out).mono ?_
    rintro e w2 ⟨rfl, hb2⟩
    go_wp2_with fail
    go_ret2
    exact ⟨rfl, hb2⟩
end Go.Proofs.YtpmbfcogkoiogaaDoor
end
section
namespace Go.Proofs.YtpmbfcogkoiogaaDoor
open Go.RowKit Go.Shelf
attribute [local go_sem] Oper.semAt_some
theorem words_cnt8 (x : StmD) : (wordsS x).length ≤ x.text.length + x.proof.length + 4 := by
  unfold wordsS
  simp only [List.length_append, List.length_cons, List.length_nil]
  have a1 : ((if labS x.kind then [x.label] else []) : List (List UInt8)).length ≤ 1 := by split <;> simp
  have a2 : ((if x.kind = 7 then [36, 61] :: x.proof else []) : List (List UInt8)).length ≤ 1 + x.proof.length := by
    split
    · simp; omega
    · simp
  have a3 : ((if mostS x.kind = 0 then [] else [[36, 46]]) : List (List UInt8)).length ≤ 1 := by split <;> simp
  omega
theorem row_not {w : World} {g h : Nat} {t t' : TypeId} {cs cs' : Array Value} (h1 : Row w g t cs) (h2 : Row w h t' cs') (hne : t ≠ t') : g ∉ [h] := fun hm => by
  simp at hm
  subst hm
  have := (show w.heap[g]? = _ from h1).symm.trans (show w.heap[g]? = _ from h2)
  simp at this
  exact hne this.2
theorem apd_fits {k m : Nat} (hk : k ≤ 8000) (hm : m ≤ 8000) : k + m ≤ maxLen ∧ (k + m) * 16 ≤ 140737488355328 := by
  unfold maxLen
  omega
theorem words_less {n j : Nat} (h : j < n) : n - (intOf (.int .i64 ((j : Int) + 1))).toNat < n - (intOf (.int .i64 (j : Int))).toNat := by
  simp [intOf]
  omega
theorem tail_sizes {X tl : List UInt8} {D W : Int} {pre : List (List (List UInt8))} {x : List (List UInt8)} (hp : pre ++ [x] <+: comS tl) (hq : X.length + (sumL (comS tl).flatten + (comS tl).flatten.length * 1006) ≤ 9100000 ∧ sumL (comS tl).flatten ≤ 1000000 ∧ (comS tl).flatten.length ≤ 8000) :
    (X ++ pre.flatMap (blockS (indS D) W)).length ≤ 10000000 ∧ x.length ≤ 10000 ∧ sumL x ≤ 1000000 := by
  have h1 := sumL_prefix (flat_prefix hp)
  have h2 := blocks_len D W pre
  rw [List.flatten_append, sumL_app, List.length_append] at h1
  simp only [List.flatten_cons, List.flatten_nil, List.append_nil] at h1
  rw [List.length_append]
  omega
theorem KpT.trans {A B C : World} (h : KpT A B) (k : KpT B C) : KpT A C := ⟨Nat.le_trans h.1 k.1, fun i c fr a => k.2 i c fr (h.2 i c fr a)⟩
theorem KpT.loop {W : World} {l : Nat} {r r' : Loop} (hl : W.heap[l]? = some (.loop r)) : KpT W (W.putObj l (.loop r')) := by
  refine ⟨by simp, fun k c fr hk => (World.putObj_heap_other fun e => ?_).trans hk⟩
  rw [e, hl] at hk
  cases hk
theorem comments_maker (s : List UInt8) (w : World) :
    Calls Tryd.prog 67 #[.string ⟨s.toArray⟩] w fun e w' => e = .returned (.func (.func 109) #[] #[.pointer (some ⟨w.heap.size, 0, none⟩)]) ∧ w.alloc (.cells #[.string ⟨s.toArray⟩] 9) = w' := by
  go_enter Tryd.func67, Tryd.ntmps67
  go_wp2
  go_ret
  exact ⟨rfl, rfl⟩
def RewPost (w : World) (r : List UInt8 × Nat × Int) (e : Ending) (w' : World) : Prop := e = .returned (.tuple #[.string ⟨r.1.toArray⟩, .int .i64 (r.2.1 : Nat), .int .i64 r.2.2]) ∧ Below w.heap.size w w'
set_option maxRecDepth 100000 in
set_option maxHeartbeats 16000000 in
theorem rewrap_any (w : World) (text : List UInt8) (W : Int) (hM : MaxAt w) (hF : FormsAt w) (hn : text.length ≤ 1000000) (hs : (docS text).2.2.2 = 0 → RwSz (docS text).1 (docS text).2.1) :
    Calls Tryd.prog 32 #[.string ⟨text.toArray⟩, .int .i64 W] w (RewPost w (rewrapS text W)) := by
  obtain ⟨⟨d, tl, off, err⟩, hd⟩ : ∃ R, docS text = R := ⟨_, rfl⟩
  rw [hd] at hs
  dsimp only at hs
  have HD := Lib.hid hd
  have HS := Lib.hid hs
  have HM := Lib.hid hM
  have HF := Lib.hid hF
  clear hd hs hM hF
  refine (callsIn_wide (n := 9)).1 ?_
  refine callsIn_of_wp_marks Tryd.func32 rfl trivial ?_ rfl
  simp only [Tryd.ntmps32, List.size_toArray, List.length_cons, List.length_nil, Nat.reduceAdd, Nat.reduceSub, Array.replicate_succ, Array.replicate_zero, List.push_toArray, List.append_toArray, List.nil_append, List.cons_append]
  gi_wp2_with fail
  refine ⟨trivial, ?_⟩
  refine (callsIn_wide.2 (doc_read_t _ text HM.out hn HF.out)).mono ?_
  rw [HD.out]
  rintro e w1 ⟨v1, rfl, hp1, hb1⟩
  have HB1 := Lib.hid hb1
  have hp := hp1.parts
  have HP := Lib.hid hp
  obtain ⟨A1, c1, rfl, hc1, hm1, -⟩ := hp.open_
  clear hp1 hp hb1
  by_cases herr : err = 0
  · subst herr
    have HZ := Lib.hid (HS.out rfl)
    have e1 : ((0 : Int) != 0) = false := rfl
    have hfew := HZ.out.few
    unfold maxLen at hm1
    clear HS
    obtain ⟨wp, hwp⟩ : ∃ wp, ((w1.alloc (.cells #[.slice A1 d.length c1, .string ⟨tl.toArray⟩] 40)).alloc (.cells #[.pointer none, .slice none 0 0, .int .i64 W, .int .i64 0] 99)).alloc (.cells #[.pointer (some ⟨w1.heap.size + 1, 0, none⟩)] 93) = wp := ⟨_, rfl⟩
    have hzp : wp.heap.size = w1.heap.size + 3 := by rw [← hwp]; simp
    have HR7 : Hid (Row wp w1.heap.size 40 #[.slice A1 d.length c1, .string ⟨tl.toArray⟩]) := Lib.hid (by rw [← hwp]; exact ((Row.new _ _ _).alloc _).alloc _)
    have HR10 : Hid (Row wp (w1.heap.size + 1 + 1) 93 #[.pointer (some ⟨w1.heap.size + 1, 0, none⟩)]) := Lib.hid (by rw [← hwp]; exact Row.new' _ _ _ (by simp))
    have HPR : Hid (Prn wp (w1.heap.size + 1) [] W 0) := Lib.hid (by
      rw [← hwp]
      have h := Prn.new (w1.alloc (.cells #[.slice A1 d.length c1, .string ⟨tl.toArray⟩] 40)) W
      rw [World.size_alloc] at h
      exact h.below (new_ (Below.refl _ _) _))
    have HBP : Hid (Below w1.heap.size w1 wp) := Lib.hid (by rw [← hwp]; exact new_ (new_ (new_ (Below.refl _ _) _) _) _)
    have r70 := HR7.out.cell (i := 0) (v := .slice A1 d.length c1) rfl
    have r71 := HR7.out.cell (i := 1) (v := .string ⟨tl.toArray⟩) rfl
    gi_wp2_with fail
    clear hwp r70 r71
    refine wpIn_loop (fun a' wv => ∃ (u12 u13 u14 u15 u16 u17 u21 u23 u24 u32 u37 u38 u39 u40 u41 u42 u43 u44 u45 u46 u47 u48 u49 u50 u51 u52 u53 u54 u55 u56 u57 u58 u59 u60 u61 u62 u63 u64 u65 u66 u67 u68 u69 u70 u71 u72 u73 u74 u75 u76 u77 u78 u79 u80 : Value) (dq : List Deferred), (∃ i : Nat, i ≤ d.length ∧ u37 = .int .i64 i ∧ OutI wp (w1.heap.size + 1) W (depD 0 (d.take i)) (rewS W 0 (d.take i)) dq wv) ∧ a' = { tmps := #[.string ⟨text.toArray⟩, .int .i64 W, undef, undef, .string ⟨#[]⟩, .int .i64 0, .int .i64 0, .pointer (some ⟨w1.heap.size, 0, none⟩), .int .i64 off, .int .i64 0, .pointer (some ⟨w1.heap.size + 1 + 1, 0, none⟩), undef, u12, u13, u14, u15, u16, u17, undef, undef, undef, u21, .string ⟨text.toArray⟩, u23, u24, .int .i64 off, .int .i64 0, .int .i64 0, .bool false, undef, undef, .int .i64 W, u32, .pointer (some ⟨w1.heap.size + 1, 0, none⟩), .pointer (some ⟨w1.heap.size, 0, none⟩), .slice A1 d.length c1, .int .i64 d.length, u37, u38, u39, u40, u41, u42, u43, u44, u45, u46, u47, u48, u49, u50, u51, u52, u53, u54, u55, u56, u57, u58, u59, u60, u61, u62, u63, u64, u65, u66, u67, u68, u69, u70, u71, u72, u73, u74, u75, u76, u77, u78, u79, u80, undef, undef, undef, undef, undef, undef, undef, undef, undef, undef, undef, undef, undef, undef, undef, undef, undef], defers := dq }) (fun a' _ => d.length - (intOf (a'.tmps.getD 37 undef)).toNat) ?start ?round
    case start =>
      repeat apply Exists.intro
      refine ⟨?_, rfl⟩
      exact ⟨0, Nat.zero_le _, rfl, ⟨PFr.refl _ _ _, HPR.out, Marks.nil⟩⟩
    case round =>
      intro _ wr hinv
      obtain ⟨u12, hinv⟩ := hinv
      obtain ⟨u13, hinv⟩ := hinv
      obtain ⟨u14, hinv⟩ := hinv
      obtain ⟨u15, hinv⟩ := hinv
      obtain ⟨u16, hinv⟩ := hinv
      obtain ⟨u17, hinv⟩ := hinv
      obtain ⟨u21, hinv⟩ := hinv
      obtain ⟨u23, hinv⟩ := hinv
      obtain ⟨u24, hinv⟩ := hinv
      obtain ⟨u32, hinv⟩ := hinv
      obtain ⟨u37, hinv⟩ := hinv
      obtain ⟨u38, hinv⟩ := hinv
      obtain ⟨u39, hinv⟩ := hinv
      obtain ⟨u40, hinv⟩ := hinv
      obtain ⟨u41, hinv⟩ := hinv
      obtain ⟨u42, hinv⟩ := hinv
      obtain ⟨u43, hinv⟩ := hinv
      obtain ⟨u44, hinv⟩ := hinv
      obtain ⟨u45, hinv⟩ := hinv
      obtain ⟨u46, hinv⟩ := hinv
      obtain ⟨u47, hinv⟩ := hinv
      obtain ⟨u48, hinv⟩ := hinv
      obtain ⟨u49, hinv⟩ := hinv
      obtain ⟨u50, hinv⟩ := hinv
      obtain ⟨u51, hinv⟩ := hinv
      obtain ⟨u52, hinv⟩ := hinv
      obtain ⟨u53, hinv⟩ := hinv
      obtain ⟨u54, hinv⟩ := hinv
      obtain ⟨u55, hinv⟩ := hinv
      obtain ⟨u56, hinv⟩ := hinv
      obtain ⟨u57, hinv⟩ := hinv
      obtain ⟨u58, hinv⟩ := hinv
      obtain ⟨u59, hinv⟩ := hinv
      obtain ⟨u60, hinv⟩ := hinv
      obtain ⟨u61, hinv⟩ := hinv
      obtain ⟨u62, hinv⟩ := hinv
      obtain ⟨u63, hinv⟩ := hinv
      obtain ⟨u64, hinv⟩ := hinv
      obtain ⟨u65, hinv⟩ := hinv
      obtain ⟨u66, hinv⟩ := hinv
      obtain ⟨u67, hinv⟩ := hinv
      obtain ⟨u68, hinv⟩ := hinv
      obtain ⟨u69, hinv⟩ := hinv
      obtain ⟨u70, hinv⟩ := hinv
      obtain ⟨u71, hinv⟩ := hinv
      obtain ⟨u72, hinv⟩ := hinv
      obtain ⟨u73, hinv⟩ := hinv
      obtain ⟨u74, hinv⟩ := hinv
      obtain ⟨u75, hinv⟩ := hinv
      obtain ⟨u76, hinv⟩ := hinv
      obtain ⟨u77, hinv⟩ := hinv
      obtain ⟨u78, hinv⟩ := hinv
      obtain ⟨u79, hinv⟩ := hinv
      obtain ⟨u80, hinv⟩ := hinv
      obtain ⟨dq, hinv⟩ := hinv
      obtain ⟨⟨i, hi, rfl, ho⟩, rfl⟩ := hinv
      have HO := Lib.hid ho
      have hB : Below w1.heap.size w1 wr := HBP.out.trans (ho.fr.below.mono (Nat.le_succ _))
      have HB := Lib.hid hB
      have HR := Lib.hid (ho.fr.row HR10.out (HPR.out.apart HR10.out (by decide)) (by simp) (by decide))
      have hzr := ho.fr.below.size
      by_cases hlt : i < d.length
      · obtain ⟨y, hy⟩ : ∃ y, d[i]? = some y := ⟨_, List.getElem?_eq_getElem hlt⟩
        obtain ⟨A', c', hv, _, _, hxx⟩ := HP.out.open_
        obtain ⟨b, o, tv, pv, gv, hA, g0, g1, g2, g3, g4, hT, hPf, hG⟩ := hxx i y hy
        obtain ⟨rfl, _, rfl⟩ := (by simpa using hv : A1 = A' ∧ True ∧ c1 = c')
        subst hA
        obtain ⟨T1, d1, rfl, -⟩ := hT.open_
        obtain ⟨P1, e1, rfl, -⟩ := hPf.open_
        obtain ⟨G1, f1, rfl, hcg, hmg, -⟩ := hG.open_
        have hmem := List.mem_of_getElem? hy
        have HT := Lib.hid hT
        have HPF := Lib.hid hPf
        have HG := Lib.hid hG
        have HY := Lib.hid hy
        have hlen : y.2.length = (wordsS y.1).length := by
          have := List.all_eq_true.1 HZ.out.lens y hmem
          simpa using this
        have HOK := Lib.hid (HZ.out.ok y hmem)
        have HGP := Lib.hid (HZ.out.gap y hmem)
        have q1 := docQ_split hy
        have q2 := rew_len W (d.take i) 0
        have q3 := HZ.out.num
        have q4 := HZ.out.sum
        rw [sumL_app] at q4
        rw [List.length_append] at q3
        have q5 := depD_le (d.take i) 0
        rw [List.length_take] at q5
        have HNX := Lib.hid (rewS_snoc hy W 0)
        have HDX := Lib.hid (depD_snoc hy 0)
        obtain ⟨X, hX⟩ : ∃ X, rewS W 0 (d.take i) = X := ⟨_, rfl⟩
        obtain ⟨D, hD⟩ : ∃ D, depD 0 (d.take i) = D := ⟨_, rfl⟩
        rw [hX] at q2 HNX HO
        rw [hD] at q5 HNX HDX HO
        have hdl : -1000000 ≤ D ∧ D ≤ 1000000 := by omega
        have hqs : X.length + (sumL (partQ y.2 (wordsS y.1)) + (partQ y.2 (wordsS y.1)).length * 1006) ≤ 9100000 ∧ sumL (partQ y.2 (wordsS y.1)) ≤ 1000000 ∧ (partQ y.2 (wordsS y.1)).length ≤ 8000 := by omega
        have HQS := Lib.hid hqs
        have HDL := Lib.hid hdl
        have HLEN := Lib.hid hlen
        have k0 := cellB g0 hB
        have k1 := cellB g1 hB
        have k2 := cellB g2 hB
        have k3 := cellB g3 hB
        have k4 := cellB g4 hB
        have r10 := HR.out.cell (i := 0) (v := .pointer (some ⟨w1.heap.size + 1, 0, none⟩)) rfl
        clear hxx hv hT hPf hG hmem hy q1 q2 q3 q4 q5 hX hD hqs hdl hlen g0 g1 g2 g3 g4 ho hB
        have hr12 := Row.new wr 62 #[.int .i64 y.1.kind, .string ⟨y.1.label.toArray⟩, .slice T1 y.1.text.length d1, .slice P1 y.1.proof.length e1, .slice G1 y.2.length f1]
        have p0 := hr12.cell (i := 0) (v := .int .i64 y.1.kind) rfl
        have n10 := ((HR.out.alloc (.cells #[.int .i64 y.1.kind, .string ⟨y.1.label.toArray⟩, .slice T1 y.1.text.length d1, .slice P1 y.1.proof.length e1, .slice G1 y.2.length f1] 62)).cell (i := 0) (v := .pointer (some ⟨w1.heap.size + 1, 0, none⟩)) rfl)
        gi_wp2_with fail
        obtain ⟨w2, hw2⟩ : ∃ w2, wr.alloc (.cells #[.int .i64 y.1.kind, .string ⟨y.1.label.toArray⟩, .slice T1 y.1.text.length d1, .slice P1 y.1.proof.length e1, .slice G1 y.2.length f1] 62) = w2 := ⟨_, rfl⟩
        have HO2 : Hid (OutI wp (w1.heap.size + 1) W D X dq w2) := Lib.hid (hw2 ▸ HO.out.below (new_ (Below.refl _ _) _))
        have HR12 : Hid (Row w2 wr.heap.size 62 #[.int .i64 y.1.kind, .string ⟨y.1.label.toArray⟩, .slice T1 y.1.text.length d1, .slice P1 y.1.proof.length e1, .slice G1 y.2.length f1]) := Lib.hid (hw2 ▸ hr12)
        have HRZ : Hid (w2.heap.size = wr.heap.size + 1) := Lib.hid (by rw [← hw2]; simp)
        rw [hw2]
        clear hw2 hr12 p0 n10 r10 k0 k1 k2 k3 k4
        refine ⟨trivial, ?_⟩
        refine (callsIn_wide.2 (prn_enter _ _ X W D y.1.kind HO2.out.prn HDL.out)).mono ?_
        rintro e w3 ⟨rfl, hp3, hf3⟩
        have HO3 := Lib.hid (HO2.out.call hp3 hf3)
        have hr12 := hf3.row HR12.out (HO2.out.prn.apart HR12.out (by decide)) (by simp) (by decide)
        have HR12' := Lib.hid hr12
        have hz3 := hf3.below.size
        clear hp3 hf3
        obtain ⟨g13, hg13⟩ : ∃ g, w3.heap.size = g := ⟨_, rfl⟩
        obtain ⟨w4, hw4⟩ : ∃ w4, (w3.alloc (.cells #[.string ⟨(indS (atD D y.1.kind)).toArray⟩] 9)).alloc (.cells #[.slice none 0 0] 22) = w4 := ⟨_, rfl⟩
        have HO4 : Hid (OutI wp (w1.heap.size + 1) W (nextD D y.1.kind) X dq w4) := Lib.hid (hw4 ▸ HO3.out.below (new_ (new_ (Below.refl _ _) _) _))
        have HR13 : Hid (Row w4 g13 9 #[.string ⟨(indS (atD D y.1.kind)).toArray⟩]) := Lib.hid (by rw [← hw4, ← hg13]; exact (Row.new _ _ _).alloc _)
        have HR14 : Hid (Row w4 (g13 + 1) 22 #[.slice none 0 0]) := Lib.hid (by rw [← hw4, ← hg13]; exact Row.new' _ _ _ (by simp))
        have hr12 := HR12'.out.below (show Below w3.heap.size w3 w4 by rw [← hw4]; exact new_ (new_ (Below.refl _ _) _) _) HR12'.out.lt
        have HR12 := Lib.hid hr12
        have hz4 : w4.heap.size = g13 + 2 := by rw [← hw4, ← hg13]; simp
        have p0 := hr12.cell (i := 0) (v := .int .i64 y.1.kind) rfl
        have p1 := hr12.cell (i := 1) (v := .string ⟨y.1.label.toArray⟩) rfl
        have p2 := hr12.cell (i := 2) (v := .slice T1 y.1.text.length d1) rfl
        have p3 := hr12.cell (i := 3) (v := .slice P1 y.1.proof.length e1) rfl
        gi_wp2_with fail
        refine ⟨trivial, ?_⟩
        have hB4 : Below w1.heap.size w1 w4 := HBP.out.trans (HO4.out.fr.below.mono (Nat.le_succ _))
        refine (callsIn_wide.2 (wordsOf_own w4 y.1 _ _ (Strs.below HT.out hB4) (Strs.below HPF.out hB4) HOK.out.1 (by have := HOK.out.2.1; omega) (by have := HOK.out.2.2; omega) (HF.out.below (then_ HB1.out hB4)))).mono ?_
        rintro e wa ⟨v8, rfl, hv8⟩
        have HV8 := Lib.hid hv8
        obtain ⟨A8, c8, rfl, hc8⟩ := own_form hv8.own
        have hba := hv8.below
        have HOA := Lib.hid (HO4.out.below hba)
        have R12 := Lib.hid (HR12.out.below hba HR12.out.lt)
        have R13 := Lib.hid (HR13.out.below hba HR13.out.lt)
        have R14 := Lib.hid (HR14.out.below hba HR14.out.lt)
        have R10 := Lib.hid (HOA.out.fr.row HR10.out (HPR.out.apart HR10.out (by decide)) (by simp) (by decide))
        have hza := hba.size
        have hw8 : (wordsS y.1).length ≤ 1000000 := by
          have h1 := HOK.out.2
          have h2 := words_cnt8 y.1
          omega
        clear hv8 hba p0 p1 p2 p3 hB4 hr12
        gi_wp2_with fail
        refine wpIn_loop (fun a' wv => ∃ (u15 u16 u17 u21 u23 u24 u32 u38 u39 u40 u41 u42 u43 u44 u45 u46 u47 u50 u51 u52 u53 u54 u55 u56 u57 u58 u59 u60 u61 u62 u63 u64 u65 u66 u67 u68 u69 u70 u71 u72 u73 u74 u75 u76 u77 u78 u79 u80 : Value) (dq : List Deferred), (∃ j : Nat, j ≤ (wordsS y.1).length ∧ u50 = .int .i64 j ∧ InI wa (w1.heap.size + 1) (g13 + 1) W (nextD D y.1.kind) (oS (indS (atD D y.1.kind)) W X y.2 j []) (bS y.2 (wordsS y.1) j []) dq wv) ∧ a' = { tmps := #[.string ⟨text.toArray⟩, .int .i64 W, undef, undef, .string ⟨#[]⟩, .int .i64 0, .int .i64 0, .pointer (some ⟨w1.heap.size, 0, none⟩), .int .i64 off, .int .i64 0, .pointer (some ⟨w1.heap.size + 1 + 1, 0, none⟩), undef, .pointer (some ⟨wr.heap.size, 0, none⟩), .pointer (some ⟨g13, 0, none⟩), .pointer (some ⟨g13 + 1, 0, none⟩), u15, u16, u17, undef, undef, undef, u21, .string ⟨text.toArray⟩, u23, u24, .int .i64 off, .int .i64 0, .int .i64 0, .bool false, undef, undef, .int .i64 W, u32, .pointer (some ⟨w1.heap.size + 1, 0, none⟩), .pointer (some ⟨w1.heap.size, 0, none⟩), .slice (some ⟨b, o, none⟩) d.length c1, .int .i64 d.length, .int .i64 i, u38, u39, u40, u41, u42, u43, u44, u45, u46, u47, .slice A8 (wordsS y.1).length c8, .int .i64 (wordsS y.1).length, u50, u51, u52, u53, u54, u55, u56, u57, u58, u59, u60, u61, u62, u63, u64, u65, u66, u67, u68, u69, u70, u71, u72, u73, u74, u75, u76, u77, u78, u79, u80, undef, undef, undef, undef, undef, undef, undef, undef, undef, undef, undef, undef, undef, undef, undef, undef, undef], defers := dq }) (fun a' _ => (wordsS y.1).length - (intOf (a'.tmps.getD 50 undef)).toNat) ?start2 ?round2
        case start2 =>
          repeat apply Exists.intro
          refine ⟨?_, rfl⟩
          refine ⟨0, Nat.zero_le _, rfl, ?_⟩
          have h := InI.start HOA.out R14.out
          have e1 : oS (indS (atD D y.1.kind)) W X y.2 0 [] = X := by simp [oS]
          have e2 : bS y.2 (wordsS y.1) 0 [] = [] := by simp [bS, blkW, lineS]
          rw [e1, e2]
          exact h
        case round2 =>
          intro _ wq hinv
          obtain ⟨u15, hinv⟩ := hinv
          obtain ⟨u16, hinv⟩ := hinv
          obtain ⟨u17, hinv⟩ := hinv
          obtain ⟨u21, hinv⟩ := hinv
          obtain ⟨u23, hinv⟩ := hinv
          obtain ⟨u24, hinv⟩ := hinv
          obtain ⟨u32, hinv⟩ := hinv
          obtain ⟨u38, hinv⟩ := hinv
          obtain ⟨u39, hinv⟩ := hinv
          obtain ⟨u40, hinv⟩ := hinv
          obtain ⟨u41, hinv⟩ := hinv
          obtain ⟨u42, hinv⟩ := hinv
          obtain ⟨u43, hinv⟩ := hinv
          obtain ⟨u44, hinv⟩ := hinv
          obtain ⟨u45, hinv⟩ := hinv
          obtain ⟨u46, hinv⟩ := hinv
          obtain ⟨u47, hinv⟩ := hinv
          obtain ⟨u50, hinv⟩ := hinv
          obtain ⟨u51, hinv⟩ := hinv
          obtain ⟨u52, hinv⟩ := hinv
          obtain ⟨u53, hinv⟩ := hinv
          obtain ⟨u54, hinv⟩ := hinv
          obtain ⟨u55, hinv⟩ := hinv
          obtain ⟨u56, hinv⟩ := hinv
          obtain ⟨u57, hinv⟩ := hinv
          obtain ⟨u58, hinv⟩ := hinv
          obtain ⟨u59, hinv⟩ := hinv
          obtain ⟨u60, hinv⟩ := hinv
          obtain ⟨u61, hinv⟩ := hinv
          obtain ⟨u62, hinv⟩ := hinv
          obtain ⟨u63, hinv⟩ := hinv
          obtain ⟨u64, hinv⟩ := hinv
          obtain ⟨u65, hinv⟩ := hinv
          obtain ⟨u66, hinv⟩ := hinv
          obtain ⟨u67, hinv⟩ := hinv
          obtain ⟨u68, hinv⟩ := hinv
          obtain ⟨u69, hinv⟩ := hinv
          obtain ⟨u70, hinv⟩ := hinv
          obtain ⟨u71, hinv⟩ := hinv
          obtain ⟨u72, hinv⟩ := hinv
          obtain ⟨u73, hinv⟩ := hinv
          obtain ⟨u74, hinv⟩ := hinv
          obtain ⟨u75, hinv⟩ := hinv
          obtain ⟨u76, hinv⟩ := hinv
          obtain ⟨u77, hinv⟩ := hinv
          obtain ⟨u78, hinv⟩ := hinv
          obtain ⟨u79, hinv⟩ := hinv
          obtain ⟨u80, hinv⟩ := hinv
          obtain ⟨dq, hinv⟩ := hinv
          obtain ⟨⟨j, hj, rfl, hii⟩, rfl⟩ := hinv
          have HI := Lib.hid hii
          have hf := hii.fr
          have Q10 := Lib.hid (hf.row R10.out (HOA.out.prn.apart R10.out (by decide)) (row_not R10.out R14.out (by decide)) (by decide))
          have Q12 := Lib.hid (hf.row R12.out (HOA.out.prn.apart R12.out (by decide)) (row_not R12.out R14.out (by decide)) (by decide))
          have Q13 := Lib.hid (hf.row R13.out (HOA.out.prn.apart R13.out (by decide)) (row_not R13.out R14.out (by decide)) (by decide))
          have hrz0 := HRZ.out
          have hpw : PFr wp wq (w1.heap.size + 1) [] := HOA.out.fr.past hf (fun k hk => by simp at hk; omega)
          have hBq : Below w1.heap.size w1 wq := HBP.out.trans (hpw.below.mono (Nat.le_succ _))
          have HBQ := Lib.hid hBq
          have hzq := hf.below.size
          have hrz := HRZ.out
          by_cases hjl : j < (wordsS y.1).length
          · obtain ⟨u, hu⟩ : ∃ u, (wordsS y.1)[j]? = some u := ⟨_, List.getElem?_eq_getElem hjl⟩
            obtain ⟨g, hg⟩ : ∃ g, y.2[j]? = some g := ⟨_, List.getElem?_eq_getElem (by rw [HLEN.out]; exact hjl)⟩
            have hws : Strs wq (.slice A8 (wordsS y.1).length c8) (wordsS y.1) := hf.rds (Rds.of_own HV8.out.own) (TyB.of_own HV8.out.own) (by decide) (HOA.out.prn.not (by decide)) (fun k hk c fz e => by
              simp at hk
              rw [hk, show wa.heap[g13 + 1]? = _ from R14.out] at e
              simp at e)
            obtain ⟨A', c', hv, _, _, hxx⟩ := Strs.open_ hws
            obtain ⟨b8, o8, hA8, x0⟩ := hxx j u hu
            obtain ⟨rfl, rfl⟩ := (by simpa using hv : A8 = A' ∧ c8 = c')
            subst hA8
            obtain ⟨A', c', hv, _, _, hxx⟩ := Strs.open_ (Strs.below HG.out hBq)
            obtain ⟨bG, oG, hAG, y0⟩ := hxx j g hg
            obtain ⟨rfl, rfl⟩ := (by simpa using hv : G1 = A' ∧ f1 = c')
            subst hAG
            have hgm := HGP.out g (List.mem_of_getElem? hg)
            have HGM := Lib.hid hgm
            have HU := Lib.hid hu
            have HGJ := Lib.hid hg
            have HJ := Lib.hid hjl
            obtain ⟨w12, hw12⟩ : ∃ w12, wq.alloc (.cells #[.int .i64 j] 3) = w12 := ⟨_, rfl⟩
            have HI12 := Lib.hid (hii.below (show Below wq.heap.size wq w12 by rw [← hw12]; exact new_ (Below.refl _ _) _))
            have HR15 : Hid (Row w12 wq.heap.size 3 #[.int .i64 j]) := Lib.hid (by rw [← hw12]; exact Row.new _ _ _)
            have q12 := (hw12 ▸ Q12.out.alloc _ : Row w12 wr.heap.size 62 #[.int .i64 y.1.kind, .string ⟨y.1.label.toArray⟩, .slice T1 y.1.text.length d1, .slice P1 y.1.proof.length e1, .slice (some ⟨bG, oG, none⟩) y.2.length f1]).cell (i := 4) (v := .slice (some ⟨bG, oG, none⟩) y.2.length f1) rfl
            have q15 := HR15.out.cell (i := 0) (v := .int .i64 j) rfl
            have hz12 : w12.heap.size = wq.heap.size + 1 := by rw [← hw12]; simp
            have z0 : w12.cell? ⟨bG, oG + j, none⟩ = some (.string ⟨g.toArray⟩) := cellB y0 (show Below wq.heap.size wq w12 by rw [← hw12]; exact new_ (Below.refl _ _) _)
            have hjg : j < y.2.length := by rw [HLEN.out]; exact hjl
            clear hws hv hxx hgm hu hg hf hii hpw hBq y0
            gi_wp2_with fail
            clear hw12 q12 q15 z0 x0 hjg
            refine ⟨trivial, ?_⟩
            refine (callsIn_wide.2 (comments_maker g _)).mono ?_
            rintro e wb ⟨rfl, hwb⟩
            have hzb : wb.heap.size = w12.heap.size + 1 := by rw [← hwb]; simp
            have hrow : Row wb w12.heap.size 9 #[.string ⟨g.toArray⟩] := by rw [← hwb]; exact Row.new _ _ _
            have HIB : Hid (InI wa (w1.heap.size + 1) (g13 + 1) W (nextD D y.1.kind) (oS (indS (atD D y.1.kind)) W X y.2 j []) (bS y.2 (wordsS y.1) j []) dq wb) := Lib.hid (by rw [← hwb]; exact HI12.out.below (new_ (Below.refl _ _) _))
            have HB15 : Hid (Row wb wq.heap.size 3 #[.int .i64 j]) := Lib.hid (by rw [← hwb]; exact HR15.out.alloc _)
            have hseq := comments_seq 8 (by omega) g HGM.out.2 HGM.out.1 (handsR (B1 := wb.heap.size) (g14 := g13 + 1) (by omega)) wb w12.heap.size hrow
            have HSEQ := Lib.hid hseq
            have HZ12 := Lib.hid hz12
            have HZB := Lib.hid hzb
            clear hwb hrow hseq hz12 hzb
            gi_wp2_with fail
            have hz12 := HZ12.out
            have hzb := HZB.out
            refine name_act (T := fun a => Code.wpIn _ _ _ _ _ a _) ?_
            intro a0 ha0
            have hg14 : w1.heap.size + 1 ≤ g13 + 1 := by omega
            have hwa14 : wa.heap.size ≤ wb.heap.size := by omega
            have hpb1 : w1.heap.size + 1 ≤ wb.heap.size := by omega
            have hpba : w1.heap.size + 1 ≤ wa.heap.size := by omega
            have hq15 : wq.heap.size < wb.heap.size := by omega
            have h14b : g13 + 1 < wb.heap.size := by omega
            clear hz12 hzb
            refine range_law_x (n := 9) (ps := #[61]) (by omega) (gf := 109) (lb := #[.pointer (some ⟨w12.heap.size, 0, none⟩)]) (by rw [ha0]; rfl) (enters_of Tryd.func109 (by kernel_rfl) rfl) HSEQ.out (fun h1 h2 => h1.trans h2)
              (fun A k r r' hk hr => KpR.loop hr) (fun h => .inl h) (fun ht hl => tn_other ht hl (fun _ _ e => by cases e)) (fun ht hl => tn_other ht hl (fun _ _ e => by cases e)) (Below.refl _ _) (fun x av A h => by obtain ⟨v, base, h, _⟩ := h; rw [h]; rfl)
              (fun pre A => InI wa (w1.heap.size + 1) (g13 + 1) W (nextD D y.1.kind) (oS (indS (atD D y.1.kind)) W X y.2 j pre) (bS y.2 (wordsS y.1) j pre) dq A ∧ Row A wq.heap.size 3 #[.int .i64 j] ∧ wb.heap.size ≤ A.heap.size) (fun _ _ _ => False) ?st ?stl (fun c s A A' h _ => h) (fun c s A k r r' h _ _ => h) (fun pre A h => h.1.ga h.2.2) ⟨HIB.out, HB15.out, Nat.le_refl _⟩
              (fun pre x a' A => ∃ v base, a' = { tmps := (a0.tmps.setIfInBounds 61 v).setIfInBounds 17 v, defers := [] } ∧ OwnX (SfR wb.heap.size (g13 + 1)) base v x A ∧ InI wa (w1.heap.size + 1) (g13 + 1) W (nextD D y.1.kind) (oS (indS (atD D y.1.kind)) W X y.2 j pre) (bS y.2 (wordsS y.1) j pre) dq A ∧ Row A wq.heap.size 3 #[.int .i64 j] ∧ wb.heap.size ≤ A.heap.size) ?sta ?assign ?body ?done ?stop
            case st =>
              rintro pre A A' ⟨h1, h2, h3⟩ ht
              exact ⟨h1.turn ht hpb1 hwa14, tn_other ht h2 (fun _ _ e => by cases e), Nat.le_trans h3 ht.size⟩
            case stl =>
              rintro pre A k r r' ⟨h1, h2, h3⟩ hk hl
              exact ⟨h1.loop hl (by omega) (by omega), h2.grown (grownBy_putObj' A k _) (fun e => by have := Option.some.inj e; omega), by simpa using h3⟩
            case sta =>
              rintro pre x a' A k r r' ⟨v, base, h0, hx, h1, h2, h3⟩ hk hl
              exact ⟨v, base, h0, hx.round (handsR h14b) (KpR.loop hl), h1.loop hl (by omega) (by omega), h2.grown (grownBy_putObj' A k _) (fun e => by have := Option.some.inj e; omega), by simpa using h3⟩
            case assign =>
              subst ha0
              intro yl pre x av A K hI hR hpre hK
              obtain ⟨v, base, rfl, hx⟩ := hR
              gi_wp2
              exact hK _ _ (KeepsFrom.refl _ _) (KpR.refl _ _) ⟨v, base, rfl, hx, hI⟩
            case body =>
              subst ha0
              rintro yl pre x a' A ⟨v, base, rfl, hx, hI, h15, hbs⟩ hpre
              simp only [List.setIfInBounds_toArray, List.set_cons_zero, List.set_cons_succ]
              have hxg := hx.own
              obtain ⟨A9, c9, rfl, hc9⟩ := own_form hxg
              have hfA := hI.fr
              have a10 := (hfA.row R10.out (HOA.out.prn.apart R10.out (by decide)) (row_not R10.out R14.out (by decide)) (by decide)).cell (i := 0) (v := .pointer (some ⟨w1.heap.size + 1, 0, none⟩)) rfl
              have a13 := (hfA.row R13.out (HOA.out.prn.apart R13.out (by decide)) (row_not R13.out R14.out (by decide)) (by decide)).cell (i := 0) (v := .string ⟨(indS (atD D y.1.kind)).toArray⟩) rfl
              have a15 := h15.cell (i := 0) (v := .int .i64 j) rfl
              obtain ⟨v14, hr14, hown14⟩ := hI.own
              have hpp : pre <+: comS g := (List.prefix_append pre [x]).trans hpre
              have hxl := x_len HGJ.out HJ.out hpre
              have hqs := HQS.out
              have HIA := Lib.hid hI
              have HX := Lib.hid hxg
              have HPRE := Lib.hid hpre
              by_cases hj0 : j = 0
              · subst hj0
                have e0 : (((0 : Nat) : Int) == 0) = true := rfl
                have hg0 : y.2.headD [] = g := by
                  have := HGJ.out
                  cases hy2 : y.2 with
                  | nil => rw [hy2] at this; simp at this
                  | cons a r => rw [hy2] at this; simpa using this
                have hol := o_len (j := 0) (D := atD D y.1.kind) (W := W) (X := X) (pre := pre) HLEN.out (words_ne y.1) (fun _ => by rw [hg0]; exact hpp)
                have hil := indS_len (atD D y.1.kind)
                clear hI hx hxg hfA hpre
                gi_wp2_with fail
                refine ⟨trivial, ?_⟩
                refine ((callsIn_wide.2 (prn_block A (w1.heap.size + 1) _ _ W _ _ x HIA.out.prn (Rds.of_own HX.out) (TyB.of_own HX.out) (Nat.le_trans hol (Nat.le_trans HQS.out.1 (by decide))) (Nat.le_trans hil (by decide)) (Nat.le_trans hxl.1 (Nat.le_trans HQS.out.2.2 (by decide))) (Nat.le_trans hxl.2 HQS.out.2.1))).inRound yl).mono ?_
                rintro e w5 ⟨⟨v5, rfl⟩, h5, hf5⟩
                gi_wp2
                refine ⟨(hf5.others HIA.out.prn).from _, hf5.kpr HIA.out.prn hr14, ?_, hf5.row h15 (HIA.out.prn.apart h15 (by decide)) (by simp) (by decide), Nat.le_trans hbs hf5.below.size⟩
                rw [o_snoc, b_zero (pre' := pre)]
                exact HIA.out.print h5 hf5
              · have e0 : ((j : Int) == 0) = false := by rw [beq_eq_false_iff_ne]; omega
                have e00 : (j == 0) = false := by simpa using hj0
                have hbl := b_len HLEN.out HGJ.out HU.out hpp
                have hxn : 0 < x.length := List.length_pos_iff.2 (comS_ne g x (hpre.subset (by simp)))
                obtain ⟨_, _, hv9, _, _, _, hx9⟩ := Rds.of_own hxg
                obtain ⟨b9, o9, hA9, hcl9⟩ := hx9 hxn
                obtain ⟨rfl, rfl⟩ := (by simpa using hv9 : A9 = _ ∧ c9 = _)
                subst hA9
                obtain ⟨A7, c7, rfl, hc7⟩ := own_form hown14
                have c14 := hr14.cell (i := 0) (v := .slice A7 (bS y.2 (wordsS y.1) j pre).length c7) rfl
                obtain ⟨i0, hi0, hz0, hz1, hz2⟩ := info_parts (show (Tryd.prog.info? 9).map (fun i => (i.zero, i.size, i.bytes)) = some (some (.string ⟨#[]⟩), 1, 16) by kernel_rfl)
                clear hI hx hxg hfA hpre hv9 hx9
                gi_wp2_with (gi_at_builtin; (refine wpListIn_append_new _ rfl (.tmp 68) (.tmp 69) 22 rfl wa.heap.size 9 i0 (.string ⟨#[]⟩) 1 16 Tryd.underlying22 hi0 hz0 hz1 hz2 rfl (by decide) (.slice A7 (bS y.2 (wordsS y.1) j pre).length c7) (bS y.2 (wordsS y.1) j pre).length (strC (bS y.2 (wordsS y.1) j pre)) rfl hown14 ⟨b9, o9, none⟩ x.length c9 (strC x) rfl (by simp [strC]) (fun jj uu hh => by rw [addr_add]; exact hcl9 jj uu hh) str_ones (apd_fits (Nat.le_trans hbl.1 HQS.out.2.2) (Nat.le_trans hxl.1 HQS.out.2.2)).1 (apd_fits (Nat.le_trans hbl.1 HQS.out.2.2) (Nat.le_trans hxl.1 HQS.out.2.2)).2 (Nat.le_trans hwa14 hbs) ?_; intro v' w5 hown' hgrow hnew; obtain ⟨A5, c5, rfl, hc5⟩ := own_form hown'; have HAP := Lib.hid (HIA.out.app hr14 (more := x) hown' hgrow hpba hg14); have HKP := Lib.hid (app_kpr hr14 hown14 hgrow hnew); have H5 := Lib.hid hgrow; have d14 := HAP.out.2.1.cell (i := 0) (v := .slice A7 (bS y.2 (wordsS y.1) j pre).length c7) rfl; have f14 := HAP.out.2.1.free 0; clear hown' hgrow hnew))
                refine ⟨HAP.out.2.2.from _, HKP.out, ?_, ?_, ?_⟩
                · rw [o_other hj0 (pre' := pre), b_snoc hj0]
                  exact HAP.out.1
                · have h1 := h15.grown H5.out (fun e => by
                    obtain ⟨c, hc⟩ := own_string hown14 e.symm
                    rw [show A.heap[wq.heap.size]? = _ from h15] at hc
                    simp at hc)
                  exact Row.other h1 (p := ⟨g13 + 1, 0, none⟩) (by dsimp only; omega) _
                · have h2 := Nat.le_trans hbs H5.out.size
                  simpa [World.setCell] using h2
            case done =>
              subst ha0
              rintro D' A hD ⟨hI, h15, hbs⟩ hK
              have hI := hI.mark HIB.out.marks hK hD (by omega)
              obtain ⟨v14, hr14, hown14⟩ := hI.own
              obtain ⟨A7, c7, rfl, hc7⟩ := own_form hown14
              have hbl := b_len HLEN.out HGJ.out HU.out (List.prefix_refl (comS g))
              have hqs := HQS.out
              obtain ⟨i0, hi0, hz0, hz1, hz2⟩ := info_parts (show (Tryd.prog.info? 9).map (fun i => (i.zero, i.size, i.bytes)) = some (some (.string ⟨#[]⟩), 1, 16) by kernel_rfl)
              have HI2 := Lib.hid (hI.below (new_ (Below.refl _ A) (.cells #[.string ⟨u.toArray⟩] 9)))
              have HR2 := Lib.hid (hr14.alloc (.cells #[.string ⟨u.toArray⟩] 9))
              have c14 := hr14.cell (i := 0) (v := .slice A7 (bS y.2 (wordsS y.1) j (comS g)).length c7) rfl
              have hfw : wa.heap.size ≤ A.heap.size := hI.fr.below.size
              clear hI
              gi_wp2_with (gi_at_builtin; (refine wpListIn_append_new _ rfl (.tmp 71) (.tmp 73) 22 rfl wa.heap.size 9 i0 (.string ⟨#[]⟩) 1 16 Tryd.underlying22 hi0 hz0 hz1 hz2 rfl (by decide) (.slice A7 (bS y.2 (wordsS y.1) j (comS g)).length c7) (bS y.2 (wordsS y.1) j (comS g)).length (strC (bS y.2 (wordsS y.1) j (comS g))) rfl (hown14.alloc _) ⟨A.heap.size, 0, none⟩ 1 1 [.string ⟨u.toArray⟩] rfl rfl (cell_one_new _ _ _) (by simp [Value.oneCell']) (apd_fits (Nat.le_trans hbl.1 HQS.out.2.2) (m := 1) (by decide)).1 (apd_fits (Nat.le_trans hbl.1 HQS.out.2.2) (m := 1) (by decide)).2 (by rw [World.size_alloc]; exact Nat.le_succ_of_le hfw) ?_; intro v' w5 hown' hgrow hnew; obtain ⟨A5, c5, rfl, hc5⟩ := own_form hown'; have HAP := Lib.hid (HI2.out.app HR2.out (more := [u]) hown' hgrow hpba hg14); have d14 := HAP.out.2.1.cell (i := 0) (v := .slice A7 (bS y.2 (wordsS y.1) j (comS g)).length c7) rfl; have f14 := HAP.out.2.1.free 0; clear hown' hgrow hnew))
              refine ⟨?_, ?_⟩
              rotate_left
              · exact words_less HJ.out
              repeat apply Exists.intro
              refine ⟨?_, rfl⟩
              exact ⟨j + 1, HJ.out, by go_num, by rw [← o_next HGJ.out, b_next HGJ.out HU.out]; exact HAP.out.1⟩
            case stop =>
              rintro D c pre A hD h
              exact h.elim
          · have hje : j = (wordsS y.1).length := Nat.le_antisymm hj (Nat.le_of_not_lt hjl)
            subst hje
            obtain ⟨v14, hr14, hown14⟩ := hii.own
            have hbS : bS y.2 (wordsS y.1) (wordsS y.1).length [] = blkW y.2 (wordsS y.1) (wordsS y.1).length := by
              unfold bS
              rw [List.flatten_nil, ite_self, List.append_nil]
            have hbl := blk_len y.2 (wordsS y.1) HLEN.out (wordsS y.1).length
            have hol := o_len (j := (wordsS y.1).length) (D := atD D y.1.kind) (W := W) (X := X) (pre := []) HLEN.out (words_ne y.1) (fun _ => List.nil_prefix)
            have hil := indS_len (atD D y.1.kind)
            rw [hbS] at hown14 HI
            obtain ⟨A7, c7, rfl, hc7⟩ := own_form hown14
            have c10 := Q10.out.cell (i := 0) (v := .pointer (some ⟨w1.heap.size + 1, 0, none⟩)) rfl
            have c13 := Q13.out.cell (i := 0) (v := .string ⟨(indS (atD D y.1.kind)).toArray⟩) rfl
            have c14 := hr14.cell (i := 0) (v := .slice A7 (blkW y.2 (wordsS y.1) (wordsS y.1).length).length c7) rfl
            have HOE := Lib.hid (o_end (ind := indS (atD D y.1.kind)) (W := W) (X := X) HLEN.out (words_ne y.1))
            have HG14 : Hid (wp.heap.size ≤ g13 + 1) := Lib.hid (by omega)
            have HHI := Lib.hid hlt
            clear hii hf hpw hBq hzq hrz hrz0 hbS hzr hz3 hz4 hza
            gi_wp2_with fail
            refine ⟨trivial, ?_⟩
            refine (callsIn_wide.2 (prn_block wq (w1.heap.size + 1) _ _ W _ _ _ HI.out.prn (Rds.of_own hown14) (TyB.of_own hown14) (Nat.le_trans hol (Nat.le_trans HQS.out.1 (by decide))) (Nat.le_trans hil (by decide)) (Nat.le_trans hbl.2.2 (Nat.le_trans HQS.out.2.2 (by decide))) (Nat.le_trans hbl.2.1 HQS.out.2.1))).mono ?_
            rintro e w6 ⟨⟨v6, rfl⟩, h6, hf6⟩
            rw [HOE.out] at h6
            have HO6 := Lib.hid ((HOA.out.after HI.out HG14.out).call h6 hf6)
            clear h6 hf6 c10 c13 c14
            gi_wp2
            refine ⟨?_, ?_⟩
            rotate_left
            · exact words_less HHI.out
            repeat apply Exists.intro
            refine ⟨?_, rfl⟩
            exact ⟨i + 1, HHI.out, by go_num, by rw [HNX.out, HDX.out]; exact HO6.out⟩
      · have hie : i = d.length := Nat.le_antisymm hi (Nat.le_of_not_lt hlt)
        subst hie
        have q2 := rew_len W d 0
        have q3 := HZ.out.num
        have q4 := HZ.out.sum
        rw [sumL_app] at q4
        rw [List.length_append] at q3
        have q5 := depD_le d 0
        rw [List.take_length] at HO
        have HRT : Hid (rewT W d tl = rewS W 0 d ++ (comS tl).flatMap (blockS (indS (depD 0 d)) W)) := Lib.hid rfl
        obtain ⟨X, hX⟩ : ∃ X, rewS W 0 d = X := ⟨_, rfl⟩
        obtain ⟨D, hD⟩ : ∃ D, depD 0 d = D := ⟨_, rfl⟩
        rw [hX] at q2 HO HRT
        rw [hD] at q5 HO HRT
        have hdl : -1000000 ≤ D ∧ D ≤ 1000000 := by omega
        have hqs : X.length + (sumL (comS tl).flatten + (comS tl).flatten.length * 1006) ≤ 9100000 ∧ sumL (comS tl).flatten ≤ 1000000 ∧ (comS tl).flatten.length ≤ 8000 := by omega
        have HQS := Lib.hid hqs
        have HDL := Lib.hid hdl
        have R7 := Lib.hid (ho.fr.row HR7.out (HPR.out.apart HR7.out (by decide)) (by simp) (by decide))
        have r10 := HR.out.cell (i := 0) (v := .pointer (some ⟨w1.heap.size + 1, 0, none⟩)) rfl
        have hbr := hB
        clear q2 q3 q4 q5 hX hD hqs hdl ho hB hbr hfew hc1 hm1 hi hlt
        gi_wp2_with fail
        refine ⟨trivial, ?_⟩
        refine (callsIn_wide.2 (prn_enter _ _ X W D 8 HO.out.prn HDL.out)).mono ?_
        rintro e w2 ⟨rfl, hp2, hf2⟩
        have HO2 := Lib.hid (HO.out.call hp2 hf2)
        have S7 := hf2.row R7.out (HO.out.prn.apart R7.out (by decide)) (by simp) (by decide)
        have S10 := hf2.row HR.out (HO.out.prn.apart HR.out (by decide)) (by simp) (by decide)
        have hat : atD D 8 = D := rfl
        rw [hat]
        obtain ⟨g18, hg18⟩ : ∃ g, w2.heap.size = g := ⟨_, rfl⟩
        obtain ⟨w3, hw3⟩ : ∃ w3, w2.alloc (.cells #[.string ⟨(indS D).toArray⟩] 9) = w3 := ⟨_, rfl⟩
        have HO3 : Hid (OutI wp (w1.heap.size + 1) W (nextD D 8) X dq w3) := Lib.hid (hw3 ▸ HO2.out.below (new_ (Below.refl _ _) _))
        have T7 : Hid (Row w3 w1.heap.size 40 #[.slice A1 d.length c1, .string ⟨tl.toArray⟩]) := Lib.hid (hw3 ▸ S7.alloc _)
        have T10 : Hid (Row w3 (w1.heap.size + 1 + 1) 93 #[.pointer (some ⟨w1.heap.size + 1, 0, none⟩)]) := Lib.hid (hw3 ▸ S10.alloc _)
        have T18 : Hid (Row w3 g18 9 #[.string ⟨(indS D).toArray⟩]) := Lib.hid (by rw [← hw3, ← hg18]; exact Row.new _ _ _)
        have t7 := T7.out.cell (i := 1) (v := .string ⟨tl.toArray⟩) rfl
        have HBP3 : Hid (Below w1.heap.size w1 w3) := Lib.hid (HBP.out.trans (HO3.out.fr.below.mono (Nat.le_succ _)))
        have HL3 := Lib.hid HO3.out.prn.lt
        clear hp2 hf2 S7 S10 hzr
        gi_wp2_with fail
        clear hw3 hg18 t7
        refine ⟨trivial, ?_⟩
        refine (callsIn_wide.2 (comments_maker tl _)).mono ?_
        rintro e wb ⟨rfl, hwb⟩
        have hrow : Row wb w3.heap.size 9 #[.string ⟨tl.toArray⟩] := by rw [← hwb]; exact Row.new _ _ _
        have HZB : Hid (wb.heap.size = w3.heap.size + 1) := Lib.hid (by rw [← hwb]; simp)
        have HOB : Hid (OutI w3 (w1.heap.size + 1) W (nextD D 8) (X ++ (([] : List (List (List UInt8))).flatMap (blockS (indS D) W))) dq wb) := Lib.hid (by
          have h : OutI w3 (w1.heap.size + 1) W (nextD D 8) X dq w3 := ⟨PFr.refl _ _ _, HO3.out.prn, HO3.out.marks⟩
          rw [List.flatMap_nil, List.append_nil, ← hwb]
          exact h.below (new_ (Below.refl _ _) _))
        have HSEQ := Lib.hid (comments_seq 8 (by omega) tl HZ.out.tail.2 HZ.out.tail.1 (handsT wb.heap.size) wb w3.heap.size hrow)
        clear hwb hrow
        gi_wp2_with fail
        refine name_act (T := fun a => Code.wpIn _ _ _ _ _ a _) ?_
        intro a0 ha0
        have hwb3 : w3.heap.size ≤ wb.heap.size := by rw [HZB.out]; exact Nat.le_succ _
        have hpb1 : w1.heap.size + 1 ≤ wb.heap.size := Nat.le_trans (Nat.le_of_lt HL3.out) hwb3
        refine range_law_x (n := 9) (ps := #[86]) (by omega) (gf := 109) (lb := #[.pointer (some ⟨w3.heap.size, 0, none⟩)]) (by rw [ha0]; rfl) (enters_of Tryd.func109 (by kernel_rfl) rfl) HSEQ.out (fun h1 h2 => h1.trans h2)
          (fun A k r r' hk hr => KpT.loop hr) (fun h => .inl h) (fun ht hl => tn_other ht hl (fun _ _ e => by cases e)) (fun ht hl => tn_other ht hl (fun _ _ e => by cases e)) (Below.refl _ _) (fun x av A h => by obtain ⟨v, base, h, _⟩ := h; rw [h]; rfl)
          (fun pre A => OutI w3 (w1.heap.size + 1) W (nextD D 8) (X ++ pre.flatMap (blockS (indS D) W)) dq A ∧ wb.heap.size ≤ A.heap.size) (fun _ _ _ => False) ?st ?stl (fun c s A A' h _ => h) (fun c s A k r r' h _ _ => h) (fun pre A h => h.2) ⟨HOB.out, Nat.le_refl _⟩
          (fun pre x a' A => ∃ v base, a' = { tmps := (a0.tmps.setIfInBounds 86 v).setIfInBounds 19 v, defers := [] } ∧ OwnX (fun _ g => wb.heap.size ≤ g) base v x A ∧ OutI w3 (w1.heap.size + 1) W (nextD D 8) (X ++ pre.flatMap (blockS (indS D) W)) dq A ∧ wb.heap.size ≤ A.heap.size) ?sta ?assign ?body ?done ?stop
        case st =>
          rintro pre A A' ⟨h1, h3⟩ ht
          exact ⟨h1.turn ht hpb1 hwb3, Nat.le_trans h3 ht.size⟩
        case stl =>
          rintro pre A k r r' ⟨h1, h3⟩ hk hl
          exact ⟨h1.loop hl (Nat.le_trans hpb1 hk) (Nat.le_trans hwb3 hk), by simpa using h3⟩
        case sta =>
          rintro pre x a' A k r r' ⟨v, base, h0, hx, h1, h3⟩ hk hl
          exact ⟨v, base, h0, hx.round (handsT _) (KpT.loop hl), h1.loop hl (Nat.le_trans hpb1 hk) (Nat.le_trans hwb3 hk), by simpa using h3⟩
        case assign =>
          subst ha0
          intro yl pre x av A K hI hR hpre hK
          obtain ⟨v, base, rfl, hx⟩ := hR
          gi_wp2
          exact hK _ _ (KeepsFrom.refl _ _) ⟨Nat.le_refl _, fun _ _ _ h => h⟩ ⟨v, base, rfl, hx, hI⟩
        case body =>
          subst ha0
          rintro yl pre x a' A ⟨v, base, rfl, hx, hI, hbs⟩ hpre
          simp only [List.setIfInBounds_toArray, List.set_cons_zero, List.set_cons_succ]
          have hxg := hx.own
          obtain ⟨A9, c9, rfl, hc9⟩ := own_form hxg
          have a10 := (hI.fr.row T10.out (HO3.out.prn.apart T10.out (by decide)) (by simp) (by decide)).cell (i := 0) (v := .pointer (some ⟨w1.heap.size + 1, 0, none⟩)) rfl
          have a18 := (hI.fr.row T18.out (HO3.out.prn.apart T18.out (by decide)) (by simp) (by decide)).cell (i := 0) (v := .string ⟨(indS D).toArray⟩) rfl
          have hsn : X ++ (pre ++ [x]).flatMap (blockS (indS D) W) = X ++ pre.flatMap (blockS (indS D) W) ++ blockS (indS D) W x := by simp
          have HSN := Lib.hid hsn
          have hsz := tail_sizes (X := X) (D := D) (W := W) hpre HQS.out
          have hil := indS_len D
          have HIA := Lib.hid hI
          have HX := Lib.hid hxg
          clear hI hx hxg hpre hsn
          gi_wp2_with fail
          refine ⟨trivial, ?_⟩
          refine ((callsIn_wide.2 (prn_block A (w1.heap.size + 1) _ _ W _ _ x HIA.out.prn (Rds.of_own HX.out) (TyB.of_own HX.out) hsz.1 (Nat.le_trans hil (by decide)) hsz.2.1 hsz.2.2)).inRound yl).mono ?_
          rintro e w5 ⟨⟨v5, rfl⟩, h5, hf5⟩
          gi_wp2
          refine ⟨(hf5.others HIA.out.prn).from _, hf5.kpt HIA.out.prn, ?_, Nat.le_trans hbs hf5.below.size⟩
          rw [HSN.out]
          exact HIA.out.call h5 hf5
        case done =>
          subst ha0
          rintro D' A hD' ⟨hI, hbs⟩ hK
          have hmk : Marks (w1.heap.size + 1) A (markD D' :: dq) := HOB.out.marks.push hI.marks hK (Nat.le_trans hpb1 hD') hD'
          have a10 := (hI.fr.row T10.out (HO3.out.prn.apart T10.out (by decide)) (by simp) (by decide)).cell (i := 0) (v := .pointer (some ⟨w1.heap.size + 1, 0, none⟩)) rfl
          rw [← HRT.out] at hI
          have hrl : (rewT W d tl).length ≤ 100000000 := by
            rw [HRT.out, List.length_append]
            exact Nat.le_trans (Nat.add_le_add_left (blocks_len D W (comS tl)) _) (Nat.le_trans HQS.out.1 (by decide))
          have HI := Lib.hid hI
          have HMK := Lib.hid hmk
          clear hI hmk hK
          gi_wp2_with fail
          refine ⟨trivial, ?_⟩
          refine (callsIn_wide.2 (prn_textK _ _ _ W _ HI.out.prn hrl)).mono ?_
          rintro e w9 ⟨rfl, hb9, hk9⟩
          have HQ : Hid ((if 40000 < (rewT W d tl).length then ([] : List UInt8) else rewT W d tl) = (rewrapS text W).1 ∧ (0 : Nat) = (rewrapS text W).2.1 ∧ (if 40000 < (rewT W d tl).length then (15 : Int) else 0) = (rewrapS text W).2.2) := Lib.hid (by
            have hr : rewrapS text W = if 40000 < (rewT W d tl).length then ([], 0, 15) else (rewT W d tl, 0, 0) := by
              unfold rewrapS
              rw [HD.out]
              exact if_neg (fun h => h rfl)
            rw [hr]
            by_cases hb : 40000 < (rewT W d tl).length
            · simp [hb]
            · simp [hb])
          have HB9 := Lib.hid hb9
          have hm9 := HMK.out.others hk9
          rw [HQ.out.1, HQ.out.2.2]
          clear hb9 hk9
          gi_wp2
          refine leaves_marks (u := .returning) (B := w1.heap.size + 1) (fun h => by cases h) (markD D' :: dq) w9 hm9 fun W' hb' => ?_
          have HBW := Lib.hid (then_ HB1.out (HBP3.out.trans (((HI.out.fr.below.trans HB9.out).trans hb').mono (Nat.le_succ _))))
          clear hb'
          refine ⟨.tuple #[.string ⟨(rewrapS text W).1.toArray⟩, .int .i64 0, .int .i64 (rewrapS text W).2.2], by simp [results, Tryd.f32, go_sem], ?_, HBW.out⟩
          rw [← HQ.out.2.1]
          rfl
        case stop =>
          rintro D' c pre A hD' h
          exact h.elim
  · have e1 : (err != 0) = true := by simpa using herr
    have HR : Hid (rewrapS text W = ([], off, err)) := Lib.hid (by unfold rewrapS; rw [HD.out, if_pos herr])
    gi_wp2
    refine ⟨.tuple #[.string ⟨#[]⟩, .int .i64 (off : Nat), .int .i64 err], by simp [results, Tryd.f32, go_sem], ?_⟩
    rw [HR.out]
    exact ⟨rfl, new_ HB1.out _⟩
end Go.Proofs.YtpmbfcogkoiogaaDoor
end
section
namespace Go.Proofs.YtpmbfcogkoiogaaDoor
open Go.RowKit
theorem scan_fine {s : List UInt8} (h : (scanS s).2.2 = 0) : scanS s = (toks 0 s, 0, 0) := by
  unfold scanS at h ⊢
  split at h
  · exact absurd h (show ¬ ((_ : Int) = 0) by decide)
  · rename_i h1
    rw [if_neg h1]
    split at h
    · exact absurd h (show ¬ ((30 : Int) = 0) by decide)
    · split at h
      · exact absurd h (show ¬ ((8 : Int) = 0) by decide)
      · rfl
theorem scan_doc {text : List UInt8} {d : List PartD} {tl : List UInt8} {off : Nat} (h : docS text = (d, tl, off, 0)) : scanS text = (toks 0 text, 0, 0) := by
  refine scan_fine ?_
  unfold docS at h
  split at h
  · rename_i h1
    exact absurd (congrArg (fun r => r.2.2.2) h) h1
  · rename_i h1
    apply Decidable.byContradiction
    intro h2
    refine h1 ?_
    unfold stripS
    rw [if_pos h2]
    exact h2
theorem rewrap_fine {text s : List UInt8} {W : Int} {n : Nat} (h : rewrapS text W = (s, n, 0)) :
    (scanS text).2.2 = 0 ∧ (scanS s).2.2 = 0 ∧ rewrapS s W = (s, 0, 0) ∧ (scanS text).1.map (·.1) = (scanS s).1.map (·.1) ∧ (scanS text).1.length ≤ 8000 ∧ (scanS s).1.length ≤ 8000 ∧ s.length ≤ 40000 := by
  obtain ⟨⟨d, tl, off, z⟩, hd⟩ : ∃ R, docS text = R := ⟨_, rfl⟩
  unfold rewrapS at h
  rw [hd] at h
  dsimp only at h
  split at h
  · rename_i h1
    exact absurd (congrArg (fun r => r.2.2) h) h1
  · rename_i h1
    obtain rfl : z = 0 := by simpa using h1
    split at h
    · exact absurd (congrArg (fun r => r.2.2) h) (show ¬ ((15 : Int) = 0) by decide)
    · rename_i h2
      obtain rfl : rewT W d tl = s := congrArg (fun r => r.1) h
      obtain ⟨a1, a2, a3⟩ := rew_again hd W (by omega)
      have b1 := scan_doc hd
      have b2 := scan_doc a1
      refine ⟨by rw [b1], by rw [b2], ?_, ?_, (scanS_where _).2.2, (scanS_where _).2.2, by omega⟩
      · unfold rewrapS
        rw [a1]
        dsimp only
        rw [a2, if_neg (by simp), if_neg h2]
      · rw [b1, b2]
        exact a3
set_option maxRecDepth 100000 in
set_option maxHeartbeats 8000000 in
theorem law_rewraps (w : World) (text : List UInt8) (W : Int) (hM : MaxAt w) (hF : FormsAt w) :
    Calls Tryd.prog 8 #[.string ⟨text.toArray⟩, .int .i64 W] w fun e w' => e = .returned (.bool true) ∧ Below w.heap.size w w' := by
  have HF := Lib.hid hF
  have HM := Lib.hid hM
  clear hF hM
  by_cases hn : 2500 < text.length
  · have e1 : decide ((2500 : Int) < (text.length : Int)) = true := decide_eq_true (by omega)
    have e2 : decide (2500 < text.length) = true := decide_eq_true hn
    go_enter Tryd.func8, Tryd.ntmps8
    go_wp2_with fail
    refine (awake03 _ HF.out).mono ?_
    rintro e w2 ⟨rfl, hb⟩
    go_wp2_with fail
    go_ret
    exact ⟨rfl, hb⟩
  · have e1 : decide ((2500 : Int) < (text.length : Int)) = false := decide_eq_false (by omega)
    have e2 : decide (2500 < text.length) = false := decide_eq_false hn
    have HN : Hid (text.length ≤ 2500) := Lib.hid (by omega)
    have HSZ : Hid ((docS text).2.2.2 = 0 → RwSz (docS text).1 (docS text).2.1) := Lib.hid fun h => by
      obtain ⟨⟨d, tl, off, z⟩, hd⟩ : ∃ R, docS text = R := ⟨_, rfl⟩
      rw [hd] at h ⊢
      obtain rfl : z = 0 := h
      exact rw_sz hd (by omega)
    obtain ⟨⟨s, at_, z⟩, hr⟩ : ∃ R, rewrapS text W = R := ⟨_, rfl⟩
    have HR := Lib.hid hr
    clear hr hn
    go_enter Tryd.func8, Tryd.ntmps8
    go_wp2_with fail
    refine (rewrap_any _ text W HM.out HF.out (Nat.le_trans HN.out (by decide)) HSZ.out).mono ?_
    rw [HR.out]
    rintro e w2 ⟨rfl, hb2⟩
    have HB2 := Lib.hid hb2
    clear hb2
    go_wp2_with fail
    refine (ref_rewrap _ text W (Nat.le_trans HN.out (by decide))).mono ?_
    rw [HR.out]
    rintro e w3 ⟨rfl, hb3⟩
    have HB3 := Lib.hid (then_ HB2.out hb3)
    clear hb3
    have s1 : (s != s) = false := by simp
    have s2 : (z != z) = false := by simp
    have s3 : (s == s) = true := by simp
    have s4 : (z == z) = true := by simp
    have s5 : ((at_ : Int) != (at_ : Int)) = false := by simp
    have s6 : (at_ != at_) = false := by simp
    by_cases hz : z = 0
    · subst hz
      have q1 : ((0 : Int) != 0) = false := rfl
      have q2 : ((0 : Int) == 0) = true := rfl
      have HFI := Lib.hid (rewrap_fine HR.out)
      have HSS : Hid ((docS s).2.2.2 = 0 → RwSz (docS s).1 (docS s).2.1) := Lib.hid fun h => by
        have h4 := HFI.out.2.2.2.2.2.2
        obtain ⟨⟨d, tl, off, z⟩, hd⟩ : ∃ R, docS s = R := ⟨_, rfl⟩
        rw [hd] at h ⊢
        obtain rfl : z = 0 := h
        exact rw_sz hd (by omega)
      go_wp2_with fail
      refine (scan_any _ text).mono ?_
      rw [HFI.out.1]
      rintro e w4 ⟨v4, rfl, hv4, hb4⟩
      have HV4 := Lib.hid hv4
      have HB4 := Lib.hid (then_ HB3.out hb4)
      clear hb4 hv4
      go_wp2_with fail
      refine (scan_any _ s).mono ?_
      rw [HFI.out.2.1]
      rintro e w5 ⟨v5, rfl, hv5, hb5⟩
      have HV5 := Lib.hid hv5
      have HV4' := Lib.hid (Rds.below HV4.out hb5)
      have HB5 := Lib.hid (then_ HB4.out hb5)
      clear hb5 hv5
      go_wp2_with fail
      refine (rewrap_any _ s W (HM.out.below HB5.out) (HF.out.below HB5.out) (Nat.le_trans HFI.out.2.2.2.2.2.2 (by decide)) HSS.out).mono ?_
      rw [HFI.out.2.2.1]
      rintro e w6 ⟨rfl, hb6⟩
      have HB6 := Lib.hid (then_ HB5.out hb6)
      have HV4'' := Lib.hid (Rds.below HV4'.out hb6)
      have HV5'' := Lib.hid (Rds.below HV5.out hb6)
      clear hb6
      go_wp2_with fail
      refine (texts_any _ v4 _ HV4''.out HFI.out.2.2.2.2.1).mono ?_
      rintro e w7 ⟨v7, rfl, hv7, hb7⟩
      have HV7 := Lib.hid hv7
      have HB7 := Lib.hid (then_ HB6.out hb7)
      have HV5x := Lib.hid (Rds.below HV5''.out hb7)
      clear hv7 hb7
      go_wp2_with fail
      refine (texts_any _ v5 _ HV5x.out HFI.out.2.2.2.2.2.1).mono ?_
      rintro e w8 ⟨v8, rfl, hv8, hb8⟩
      have HV8 := Lib.hid hv8
      have HV7' := Lib.hid (Strs.below HV7.out hb8)
      have HB8 := Lib.hid (then_ HB7.out hb8)
      clear hv8 hb8
      go_wp2_with fail
      refine (equal_str_same _ v7 v8 _ (HFI.out.2.2.2.1 ▸ HV7'.out) HV8.out).mono ?_
      rintro e w9 ⟨rfl, hb9⟩
      have HB9 := Lib.hid (then_ HB8.out hb9)
      clear hb9
      go_wp2_with fail
      refine (awake03 _ (HF.out.below HB9.out)).mono ?_
      rintro e wA ⟨rfl, hbA⟩
      have HBA := Lib.hid (then_ HB9.out hbA)
      clear hbA
      go_wp2_with fail
      go_ret
      exact ⟨rfl, HBA.out⟩
    · have q1 : (z != 0) = true := by simpa using hz
      clear hz
      go_wp2_with fail
      refine (awake03 _ (HF.out.below HB3.out)).mono ?_
      rintro e w4 ⟨rfl, hb4⟩
      have HB4 := Lib.hid (then_ HB3.out hb4)
      clear hb4
      go_wp2_with fail
      go_ret
      exact ⟨rfl, HB4.out⟩
end Go.Proofs.YtpmbfcogkoiogaaDoor
end
