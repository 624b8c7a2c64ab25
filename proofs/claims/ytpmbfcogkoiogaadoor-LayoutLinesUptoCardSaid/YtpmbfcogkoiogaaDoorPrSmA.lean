/- Layout: what the guard says of the sizes of statements. The guard's statements are small enough for Print. LayoutLines: each line of Print is within the width or has one word. -/
import Derived.Test.YtpmbfcogkoiogaaDoorWordsPA
import Derived.Test.YtpmbfcogkoiogaaDoorLayParA
import Derived.Test.YtpmbfcogkoiogaaDoorPrnA
import Derived.Test.YtpmbfcogkoiogaaDoorLinesA
import Derived.Lib.SmallJoins
section
namespace Go.Proofs.YtpmbfcogkoiogaaDoor
/-- the gaps of a part, with their number -/
def gN (x : PartD) : Nat := x.2.flatten.length + x.2.length
def gsN (d : List PartD) (tl : List UInt8) : Nat := tl.length + (d.map gN).sum
theorem flat_sum : ∀ l : List (List UInt8), l.flatten.length = (l.map (·.length)).sum
  | [] => rfl
  | a :: l => by rw [List.flatten_cons, List.length_append, flat_sum l]; rfl
theorem le_sumN {α : Type} (f : α → Nat) {l : List α} {x : α} (h : x ∈ l) : f x ≤ (l.map f).sum := by
  induction l with
  | nil => cases h
  | cons a l ih =>
    rw [List.map_cons, List.sum_cons]
    rcases List.mem_cons.1 h with rfl | h
    · omega
    · have := ih h; omega
theorem flat_mem {l : List (List UInt8)} {u : List UInt8} (h : u ∈ l) : u.length ≤ l.flatten.length := by
  induction l with
  | nil => cases h
  | cons a r ih =>
    rw [List.flatten_cons, List.length_append]
    rcases List.mem_cons.1 h with rfl | h
    · omega
    · have := ih h; omega
theorem kwOf_len (k : Int) : (kwOf k).length ≤ 2 := by
  unfold kwOf kwN
  split <;> simp
theorem words_flat (x : StmD) : (wordsS x).flatten.length ≤ x.label.length + (x.text ++ x.proof).flatten.length + 6 := by
  have h1 := kwOf_len x.kind
  unfold wordsS
  simp only [List.flatten_append, List.length_append, List.flatten_cons, List.flatten_nil, List.append_nil]
  have a1 : ((if labS x.kind then [x.label] else []) : List (List UInt8)).flatten.length ≤ x.label.length := by split <;> simp
  have a2 : ((if x.kind = 7 then [36, 61] :: x.proof else []) : List (List UInt8)).flatten.length ≤ 2 + x.proof.flatten.length := by
    split
    · rw [List.flatten_cons, List.length_append]; simp
    · simp
  have a3 : ((if mostS x.kind = 0 then [] else [[36, 46]]) : List (List UInt8)).flatten.length ≤ 2 := by split <;> simp
  omega
theorem zip_flat : ∀ (g w : List (List UInt8)), ((g.zip w).flatMap fun p => p.1 ++ p.2).length ≤ g.flatten.length + w.flatten.length
  | [], w => by simp
  | a :: g, [] => by simp
  | a :: g, b :: w => by
    have := zip_flat g w
    rw [List.zip_cons_cons, List.flatMap_cons, List.flatten_cons, List.flatten_cons]
    simp only [List.length_append]
    omega
theorem out_len : ∀ (d : List PartD), (outS d).length ≤ (d.map gN).sum + zS (d.map (·.1)) + d.length * 6
  | [] => by simp [outS, zS]
  | x :: d => by
    have ih := out_len d
    have h1 := zip_flat x.2 (wordsS x.1)
    have h2 := words_flat x.1
    have h3 : (outS (x :: d)).length = (outP x).length + (outS d).length := by unfold outS; rw [List.flatMap_cons, List.length_append]
    have h4 : (outP x).length ≤ x.2.flatten.length + (wordsS x.1).flatten.length := h1
    unfold zS at ih ⊢
    simp only [List.map_cons, List.sum_cons, List.length_cons]
    have h5 : x.2.flatten.length ≤ gN x := by unfold gN; omega
    omega
theorem few_parts {l : List StmD} (h : fewS l = true) : l.length ≤ 60 ∧ nS l ≤ 300 ∧ zS l ≤ 3000 := by
  unfold fewS at h
  simp only [Bool.and_eq_true, decide_eq_true_eq] at h
  exact ⟨h.1.1, h.1.2, h.2⟩
theorem nS_mem {l : List StmD} {x : StmD} (h : x ∈ l) : x.text.length + x.proof.length ≤ nS l := by
  unfold nS
  exact le_sumN (fun x : StmD => x.text.length + x.proof.length) h
theorem zS_mem {l : List StmD} {x : StmD} (h : x ∈ l) : x.label.length + (x.text ++ x.proof).flatten.length ≤ zS l := by
  unfold zS
  exact le_sumN (fun x : StmD => x.label.length + (x.text ++ x.proof).flatten.length) h
end Go.Proofs.YtpmbfcogkoiogaaDoor
end
section
namespace Go.Proofs.YtpmbfcogkoiogaaDoor
theorem words_cnt (x : StmD) : (wordsS x).length ≤ x.text.length + x.proof.length + 4 := by
  unfold wordsS
  simp only [List.length_append, List.length_cons, List.length_nil]
  have a1 : ((if labS x.kind then [x.label] else []) : List (List UInt8)).length ≤ 1 := by split <;> simp
  have a2 : ((if x.kind = 7 then [36, 61] :: x.proof else []) : List (List UInt8)).length ≤ 1 + x.proof.length := by
    split
    · simp; omega
    · simp
  have a3 : ((if mostS x.kind = 0 then [] else [[36, 46]]) : List (List UInt8)).length ≤ 1 := by split <;> simp
  omega
theorem few_pr {l : List StmD} (h : fewS l = true) : PrSz l := by
  obtain ⟨h1, h2, h3⟩ := few_parts h
  have key : ∀ l : List StmD, sumL (l.flatMap wordsS) ≤ zS l + l.length * 6 ∧ (l.flatMap wordsS).length ≤ nS l + l.length * 4 := by
    intro l
    induction l with
    | nil => simp [sumL, zS, nS]
    | cons x l ih =>
      have a1 := words_flat x
      have a2 := words_cnt x
      have a3 : sumL (wordsS x) = (wordsS x).flatten.length := (flat_sum _).symm
      unfold zS nS at ih ⊢
      rw [List.flatMap_cons, sumL_app, List.length_append, List.map_cons, List.sum_cons, List.map_cons, List.sum_cons, List.length_cons]
      omega
  obtain ⟨k1, k2⟩ := key l
  exact ⟨by omega, fun x hx => by have := nS_mem hx; omega, by omega, by omega⟩
end Go.Proofs.YtpmbfcogkoiogaaDoor
end
section
namespace Go.Proofs.YtpmbfcogkoiogaaDoor
open Go.RowKit Go.Shelf
attribute [local go_sem] Oper.semAt_some
theorem lines_maker (s : List UInt8) (w : World) :
    Calls Tryd.prog 26 #[.string ⟨s.toArray⟩] w fun e w' => e = .returned (.func (.func 54) #[] #[.pointer (some ⟨w.heap.size, 0, none⟩)]) ∧ w.alloc (.cells #[.string ⟨s.toArray⟩] 9) = w' := by
  go_enter Tryd.func26, Tryd.ntmps26
  go_wp2
  go_ret
  exact ⟨rfl, rfl⟩
theorem name_at {T : Act → Prop} {a : Act} (h : ∀ a0, a0 = a → T a0) : T a := h a rfl
theorem allW_form {l : List StmD} (h : (allW l).2 = 0) : ∀ x ∈ l, formedS x = true := by
  unfold allW at h
  split at h
  · cases h
  · split at h
    · rename_i h2
      exact List.all_eq_true.1 h2
    · cases h
/-- what a round keeps -/
structure LnI (w : World) (W : Int) (A : World) : Prop where
  box : Row A w.heap.size 3 #[.int .i64 W]
  res : Row A (w.heap.size + 1) 4 #[.bool false]
  below : Below w.heap.size w A
theorem LnI.grow {w A A' : World} {W : Int} (h : LnI w W A) (hb : Below A.heap.size A A') : LnI w W A' := ⟨h.box.below hb h.box.lt, h.res.below hb h.res.lt, then_ h.below hb⟩
theorem LnI.turn {w A A' : World} {W : Int} {SB : Nat} (h : LnI w W A) (ht : TnL SB A A') (hs : w.heap.size + 2 ≤ SB) : LnI w W A' := by
  rcases ht with hb | ⟨_, hg⟩
  · exact h.grow hb
  · exact ⟨h.box.grown hg (fun e => by have := Option.some.inj e; omega), h.res.grown hg (fun e => by have := Option.some.inj e; omega), h.below.grown hg h.below.size fun k e => by have := Option.some.inj e; omega⟩
theorem LnI.put {w A : World} {W : Int} {k : Nat} {o' : Obj} (h : LnI w W A) (hk : w.heap.size + 2 ≤ k) : LnI w W (A.putObj k o') := by
  have hg := grownBy_putObj' A k o'
  exact ⟨h.box.grown hg (fun e => by have := Option.some.inj e; omega), h.res.grown hg (fun e => by have := Option.some.inj e; omega), h.below.grown hg h.below.size fun k e => by have := Option.some.inj e; omega⟩
set_option maxRecDepth 100000 in
set_option maxHeartbeats 8000000 in
theorem law_lines (w : World) (v : Value) (l : List StmD) (W : Int) (h : Stms w v l) (hF : FormsAt w) (hT : Lib.TabIs Tryd.prog w "strings.asciiSpace" .u8 Lib.asciiSpaceTab) (hn : nS l ≤ 1048576) (hz : zS l ≤ 1048576) (hl : l.length ≤ 1048576) :
    Calls Tryd.prog 5 #[v, .int .i64 W] w fun e w' => e = .returned (.bool true) ∧ Below w.heap.size w w' := by
  have H := Lib.hid h
  have HF := Lib.hid hF
  have HT := Lib.hid hT
  obtain ⟨A1, c1, rfl, hc1, hm1, -⟩ := h.open_
  obtain ⟨fb, hfb⟩ : ∃ b, fewS l = b := ⟨_, rfl⟩
  have HFB := Lib.hid hfb
  have HN := Lib.hid (And.intro hn (And.intro hz hl))
  unfold maxLen at hm1
  clear h hF hT hfb hn hz hl
  refine (callsIn_wide (n := 9)).1 ?_
  refine callsIn_of_wp_marks Tryd.func5 rfl trivial ?_ rfl
  simp only [Tryd.ntmps5, List.size_toArray, List.length_cons, List.length_nil, Nat.reduceAdd, Nat.reduceSub, Array.replicate_succ, Array.replicate_zero, List.push_toArray, List.append_toArray, List.nil_append, List.cons_append]
  obtain ⟨w0, hw0⟩ : ∃ w0, (w.alloc (.cells #[.int .i64 W] 3)).alloc (.cells #[.bool false] 4) = w0 := ⟨_, rfl⟩
  have hi0 : LnI w W w0 := by
    rw [← hw0]
    exact ⟨(Row.new _ _ _).alloc _, by simpa using Row.new' (w.alloc (.cells #[.int .i64 W] 3)) 4 #[.bool false] (by simp), new_ (new_ (Below.refl _ _) _) _⟩
  have hz0 : w0.heap.size = w.heap.size + 2 := by rw [← hw0]; simp
  have HI0 := Lib.hid hi0
  gi_wp2_with fail
  refine ⟨trivial, ?_⟩
  refine (callsIn_wide.2 (few_any _ _ l (H.out.below HI0.out.below) HN.out.1 HN.out.2.1 HN.out.2.2)).mono ?_
  rw [HFB.out]
  rintro e w1 ⟨rfl, hb1⟩
  have HI1 := Lib.hid (HI0.out.grow hb1)
  have HZ1 : Hid (w.heap.size + 2 ≤ w1.heap.size) := Lib.hid (by have := hb1.size; omega)
  clear hb1 HI0 hw0 hz0
  cases fb with
  | false =>
    gi_wp2_with fail
    refine ⟨trivial, ?_⟩
    refine (callsIn_wide.2 (awake03 _ (HF.out.below HI1.out.below))).mono ?_
    rintro e wz ⟨rfl, hbz⟩
    have hi := HI1.out.grow hbz
    have HI := Lib.hid hi
    have d0 := (hi.res.set 0 (.bool true)).cell (i := 0) (v := .bool true) rfl
    have g0 := hi.res.cell (i := 0) (v := .bool false) rfl
    have f0 := hi.res.free 0
    clear hbz hi HI1
    gi_wp2
    refine ⟨.bool true, by simp [results, Tryd.f5, go_sem, d0], rfl, ?_⟩
    exact HI.out.below.setCell (p := ⟨w.heap.size + 1, 0, none⟩) (by dsimp only; omega) _
  | true =>
    have HS := Lib.hid (few_pr HFB.out)
    have r3 := HI1.out.box.cell (i := 0) (v := .int .i64 W) rfl
    gi_wp2_with fail
    refine ⟨trivial, ?_⟩
    refine (callsIn_wide.2 (print_any _ _ l W (H.out.below HI1.out.below) (HF.out.below HI1.out.below) HS.out)).mono ?_
    obtain ⟨⟨S, z⟩, hp⟩ : ∃ R, printS l W = R := ⟨_, rfl⟩
    rw [hp]
    rintro e w2 ⟨rfl, hb2⟩
    have HI2 := Lib.hid (HI1.out.grow hb2)
    have HZ2 : Hid (w.heap.size + 2 ≤ w2.heap.size) := Lib.hid (by have := hb2.size; have := HZ1.out; omega)
    have HP := Lib.hid hp
    clear hb2 hp HI1 r3 HZ1
    by_cases hz : z = 0
    · subst hz
      obtain ⟨ls, hls⟩ : ∃ ls, lnS W 0 l = ls := ⟨_, rfl⟩
      have hpp := HP.out
      unfold printS at hpp
      have hal : (allW l).2 = 0 := by
        by_cases hc : (allW l).2 = 0
        · exact hc
        · rw [if_pos hc] at hpp
          injection hpp with _ h2
      rw [if_neg (fun hc => hc hal)] at hpp
      have hsz : ¬ 40000 < (prnS W 0 l).length := fun hc => by
        rw [if_pos hc] at hpp
        injection hpp with _ h2
        exact absurd h2 (by decide)
      rw [if_neg hsz] at hpp
      injection hpp with hS _
      rw [prn_lines, hls] at hS hsz
      have hok : ∀ x ∈ ls, LineOk W x ∧ LineB x := by
        rw [← hls]
        exact ln_ok W l 0 (allW_form hal)
      have hS' : S = nlS ls := hS.symm
      subst hS'
      have hln : (nlS ls).length ≤ 40000 := by unfold nlS; omega
      have HOK := Lib.hid hok
      have HLN := Lib.hid hln
      clear hS hsz hok hln hal hls HP
      have s8 : ((0 : Int) != 0) = false := rfl
      gi_wp2_with fail
      refine ⟨trivial, ?_⟩
      refine (callsIn_wide.2 (lines_maker (nlS ls) _)).mono ?_
      rintro e w3 ⟨rfl, hw3⟩
      have hz3 : w3.heap.size = w2.heap.size + 1 := by rw [← hw3]; simp
      have hr3 : Row w3 w2.heap.size 9 #[.string ⟨(nlS ls).toArray⟩] := by rw [← hw3]; exact Row.new _ _ _
      have hi3 : LnI w W w3 := by rw [← hw3]; exact HI2.out.grow (new_ (Below.refl _ _) _)
      have hseq := lines_seq 8 (by omega) ls (fun x hx => line_nl (HOK.out x hx).2) (by have := HLN.out; omega) w3 w2.heap.size hr3
      have HSEQ := Lib.hid hseq
      have HI3 := Lib.hid hi3
      have hz2 := HZ2.out
      clear hw3 hseq hi3 hr3 HI2
      gi_wp2_with fail
      refine name_at (T := fun a => Code.wpIn _ _ _ _ _ a _) ?_
      intro a0 ha0
      refine range_law_x (n := 9) (ps := #[27]) (by omega) (gf := 54) (lb := #[.pointer (some ⟨w2.heap.size, 0, none⟩)]) (by rw [ha0]; rfl) (enters_of Tryd.func54 (by kernel_rfl) rfl) HSEQ.out (fun h1 h2 v hv => h2 v (h1 v hv))
        (fun A k r r' hk hr v hv => hv.grown (grownBy_putObj' A k _) (fun e => by have := Option.some.inj e; omega))
        (fun h => .inl h) ?tl ?td (Below.refl _ _) (fun x av A (h : av = _) => by rw [h]; rfl)
        (fun _ A => LnI w W A) (fun _ _ _ => False) ?st ?stl (fun c s A A' h _ => h) (fun c s A k r r' h _ _ => h) (fun _ _ _ => trivial) HI3.out
        (fun pre x a' A => a' = { tmps := (a0.tmps.setIfInBounds 27 (.string ⟨x.toArray⟩)).setIfInBounds 7 (.string ⟨x.toArray⟩), defers := [] } ∧ LnI w W A) ?sta ?assign ?body ?done ?stop
      case tl =>
        rintro A A' k r (hb | ⟨⟨v, hv⟩, hg⟩) hl
        · exact (hb.block k (Array.getElem?_eq_some_iff.1 hl).1).trans hl
        · exact (hg.block k (Array.getElem?_eq_some_iff.1 hl).1 (fun e => by
            have e1 := Option.some.inj e
            subst e1
            have h1 : A.heap[w2.heap.size]? = _ := hv
            rw [h1] at hl
            cases hl)).trans hl
      case td =>
        rintro A A' k r (hb | ⟨⟨v, hv⟩, hg⟩) hl
        · exact (hb.block k (Array.getElem?_eq_some_iff.1 hl).1).trans hl
        · exact (hg.block k (Array.getElem?_eq_some_iff.1 hl).1 (fun e => by
            have e1 := Option.some.inj e
            subst e1
            have h1 : A.heap[w2.heap.size]? = _ := hv
            rw [h1] at hl
            cases hl)).trans hl
      case st =>
        rintro pre A A' hi ht
        exact hi.turn ht hz2
      case stl =>
        rintro pre A k r r' hi hk hl
        exact hi.put (by omega)
      case sta =>
        rintro pre x a' A k r r' ⟨h1, hi⟩ hk hl
        exact ⟨h1, hi.put (by omega)⟩
      case assign =>
        subst ha0
        intro yl pre x av A K hI hR hpre hK
        obtain rfl : av = _ := hR
        gi_wp2
        exact hK _ _ (KeepsFrom.refl _ _) (fun v hv => hv) ⟨rfl, hI⟩
      case body =>
        subst ha0
        rintro yl pre x a' A ⟨rfl, hI⟩ hpre
        obtain ⟨y, hy, rfl⟩ : ∃ y, y ∈ ls ∧ y ++ [10] = x := by
          have := hpre.subset (a := x) (by simp)
          simpa using this
        obtain ⟨ok1, ok2⟩ := HOK.out y hy
        have hyl : y.length ≤ 40000 := by
          have h1 : (y ++ [10]).length ≤ (nlS ls).length := (List.sublist_flatten_of_mem (List.mem_map_of_mem (f := (· ++ [10])) hy)).length_le
          have := HLN.out
          simp at h1
          omega
        simp only [List.setIfInBounds_toArray, List.set_cons_zero, List.set_cons_succ]
        have q3 := hI.box.cell (i := 0) (v := .int .i64 W) rfl
        have HI := Lib.hid hI
        have HSZ : Hid ((ByteArray.mk (y ++ [10]).toArray).size ≤ 9223372036854775807) := Lib.hid (by simp [ByteArray.size]; omega)
        have HSY : Hid ((ByteArray.mk y.toArray).size < 4294967281) := Lib.hid (by simp [ByteArray.size]; omega)
        have HTR : Hid (Lib.trimSuffix (ByteArray.mk (y ++ [10]).toArray).data.toList (ByteArray.mk #[10]).data.toList = y) := Lib.hid (trim_line y)
        clear hI hpre hy
        by_cases hlw : (y.length : Int) ≤ W
        · have e1 : decide ((y.length : Int) > W) = false := decide_eq_false (by omega)
          have e2 : decide (W < (y.length : Int)) = false := decide_eq_false (by omega)
          gi_wp2_with (refine ⟨trivial, ?_⟩; gi_at_call 27; (refine ((callsIn_wide.2 (Tryd.strings_TrimSuffix _ _ _ HSZ.out)).inRound yl).mono ?_; rintro e w5 ⟨rfl, rfl⟩; rw [HTR.out]))
          refine ⟨trivial, ?_⟩
          gi_wp2
          exact ⟨KeepsFrom.refl _ _, fun v hv => hv, HI.out⟩
        · have e1 : decide ((y.length : Int) > W) = true := decide_eq_true (by omega)
          have e2 : decide (W < (y.length : Int)) = true := decide_eq_true (by omega)
          have hfl : (Lib.fields (ByteArray.mk y.toArray).data.toList).length = 1 := by
            show (Lib.fields y).length = 1
            rw [fields_line ok2]
            rcases ok1 with h1 | h1
            · omega
            · exact h1
          have HFL := Lib.hid hfl
          have HTA := Lib.hid (Joins.tab_stays (show Tryd.prog.globalNamed "strings.asciiSpace" = some 0 by kernel_rfl) HT.out HI.out.below (Nat.le_refl _))
          have e3 : ((1 : Int) != 1) = false := rfl
          clear hfl
          gi_wp2_with (refine ⟨trivial, ?_⟩; gi_at_call 27; (refine ((callsIn_wide.2 (Tryd.strings_TrimSuffix _ _ _ HSZ.out)).inRound yl).mono ?_; rintro e w5 ⟨rfl, rfl⟩; rw [HTR.out]))
          refine ⟨trivial, ?_⟩
          refine ((callsIn_wide.2 (Tryd.strings_Fields _ _ HSY.out (fun j b hb => line_asc ok2 b (List.mem_of_getElem? hb)) HTA.out)).inRound yl).mono ?_
          rintro e w6 ⟨rfl, rfl⟩
          rw [HFL.out]
          have e4 : (((1 : Nat) : Int) != 1) = false := rfl
          gi_wp2
          exact ⟨(KeepsOthers.alloc _ _).from _, fun v hv => hv.alloc _, HI.out.grow (new_ (Below.refl _ _) _)⟩
      case done =>
        subst ha0
        rintro D A hD hI hK
        gi_wp2_with fail
        refine ⟨trivial, ?_⟩
        refine (callsIn_wide.2 (awake03 _ (HF.out.below hI.below))).mono ?_
        rintro e wz ⟨rfl, hbz⟩
        have hi := hI.grow hbz
        have HI := Lib.hid hi
        have g0 := hi.res.cell (i := 0) (v := .bool false) rfl
        have f0 := hi.res.free 0
        have gK := (hbz.block D (Array.getElem?_eq_some_iff.1 hK).1).trans hK
        have hRS := hi.res.set 0 (.bool true)
        clear hbz hi hI hK
        gi_wp2
        have gK5 : (wz.setCell ⟨w.heap.size + 1, 0, none⟩ (.bool true)).heap[D]? = some (.deferred (some [])) := (KeepsOthers.setCell _ _ _).same D _ gK rfl
        refine ⟨by simp, .inl ⟨_, _, rfl, run_takeDeferred gK5, ?_⟩⟩
        have hRS2 : Row ((wz.setCell ⟨w.heap.size + 1, 0, none⟩ (.bool true)).putObj D (.deferred none)) (w.heap.size + 1) 4 #[.bool true] := hRS.grown (grownBy_putObj' _ D _) (fun e => by have := Option.some.inj e; omega)
        have d0 := hRS2.cell (i := 0) (v := .bool true) rfl
        refine ⟨.bool true, by simp [results, Tryd.f5, go_sem, d0], rfl, ?_⟩
        exact (HI.out.below.setCell (p := ⟨w.heap.size + 1, 0, none⟩) (by dsimp only; omega) _).grown (grownBy_putObj' _ D _) (by simp [World.setCell]; have := HI.out.below.size; omega) (fun k e => by have := Option.some.inj e; omega)
      case stop =>
        rintro D c pre A hD h
        exact h.elim
    · have hS : S = [] := by
        have := HP.out
        unfold printS at this
        split at this
        · injection this with h1 _
          exact h1.symm
        · split at this
          · injection this with h1 _
            exact h1.symm
          · injection this with _ h2
            exact absurd h2.symm hz
      subst hS
      have s8 : (z != 0) = true := by simpa using hz
      clear hz
      gi_wp2_with fail
      refine ⟨trivial, ?_⟩
      refine (callsIn_wide.2 (awake03 _ (HF.out.below HI2.out.below))).mono ?_
      rintro e wz ⟨rfl, hbz⟩
      have hi := HI2.out.grow hbz
      have HI := Lib.hid hi
      have d0 := (hi.res.set 0 (.bool true)).cell (i := 0) (v := .bool true) rfl
      have g0 := hi.res.cell (i := 0) (v := .bool false) rfl
      have f0 := hi.res.free 0
      clear hbz hi HI2
      gi_wp2
      refine ⟨.bool true, by simp [results, Tryd.f5, go_sem, d0], rfl, ?_⟩
      exact HI.out.below.setCell (p := ⟨w.heap.size + 1, 0, none⟩) (by dsimp only; omega) _
end Go.Proofs.YtpmbfcogkoiogaaDoor
end
