/- Layout: what the guard says of the sizes of statements. LayoutPrints: Print and Of of statements are the reference's; Of has the same statements. -/
import Derived.Test.YtpmbfcogkoiogaaGreatDoorWordsPA
import Derived.Test.YtpmbfcogkoiogaaGreatDoorLayParA
import Derived.Test.YtpmbfcogkoiogaaGreatDoorRefPA
import Derived.Test.YtpmbfcogkoiogaaGreatDoorDocLA
section
namespace Go.Proofs.YtpmbfcogkoiogaaGreatDoor
/-- the gaps of a part, with their number -/
def gN (x : PartD) : Nat := x.2.flatten.length + x.2.length
def gsN (d : List PartD) (tl : List UInt8) : Nat := tl.length + (d.map gN).sum
theorem flat_sum : ∀ l : List (List UInt8), l.flatten.length = (l.map (·.length)).sum
  | [] => rfl
  | a :: l => by rw [List.flatten_cons, List.length_append, flat_sum l]; rfl
theorem le_sumN {α : Type} (f : α → Nat) {l : List α} {x : α} (h : x ∈ l) : f x ≤ (l.map f).sum := by
  induction l with
  | nil => cases h
  | cons a l ih =>
    rw [List.map_cons, List.sum_cons]
    rcases List.mem_cons.1 h with rfl | h
    · omega
    · have := ih h; omega
theorem flat_mem {l : List (List UInt8)} {u : List UInt8} (h : u ∈ l) : u.length ≤ l.flatten.length := by
  induction l with
  | nil => cases h
  | cons a r ih =>
    rw [List.flatten_cons, List.length_append]
    rcases List.mem_cons.1 h with rfl | h
    · omega
    · have := ih h; omega
theorem kwOf_len (k : Int) : (kwOf k).length ≤ 2 := by
  unfold kwOf kwN
  split <;> simp
theorem words_flat (x : StmD) : (wordsS x).flatten.length ≤ x.label.length + (x.text ++ x.proof).flatten.length + 6 := by
  have h1 := kwOf_len x.kind
  unfold wordsS
  simp only [List.flatten_append, List.length_append, List.flatten_cons, List.flatten_nil, List.append_nil]
  have a1 : ((if labS x.kind then [x.label] else []) : List (List UInt8)).flatten.length ≤ x.label.length := by split <;> simp
  have a2 : ((if x.kind = 7 then [36, 61] :: x.proof else []) : List (List UInt8)).flatten.length ≤ 2 + x.proof.flatten.length := by
    split
    · rw [List.flatten_cons, List.length_append]; simp
    · simp
  have a3 : ((if mostS x.kind = 0 then [] else [[36, 46]]) : List (List UInt8)).flatten.length ≤ 2 := by split <;> simp
  omega
theorem zip_flat : ∀ (g w : List (List UInt8)), ((g.zip w).flatMap fun p => p.1 ++ p.2).length ≤ g.flatten.length + w.flatten.length
  | [], w => by simp
  | a :: g, [] => by simp
  | a :: g, b :: w => by
    have := zip_flat g w
    rw [List.zip_cons_cons, List.flatMap_cons, List.flatten_cons, List.flatten_cons]
    simp only [List.length_append]
    omega
theorem out_len : ∀ (d : List PartD), (outS d).length ≤ (d.map gN).sum + zS (d.map (·.1)) + d.length * 6
  | [] => by simp [outS, zS]
  | x :: d => by
    have ih := out_len d
    have h1 := zip_flat x.2 (wordsS x.1)
    have h2 := words_flat x.1
    have h3 : (outS (x :: d)).length = (outP x).length + (outS d).length := by unfold outS; rw [List.flatMap_cons, List.length_append]
    have h4 : (outP x).length ≤ x.2.flatten.length + (wordsS x.1).flatten.length := h1
    unfold zS at ih ⊢
    simp only [List.map_cons, List.sum_cons, List.length_cons]
    have h5 : x.2.flatten.length ≤ gN x := by unfold gN; omega
    omega
theorem few_parts {l : List StmD} (h : fewS l = true) : l.length ≤ 60 ∧ nS l ≤ 300 ∧ zS l ≤ 3000 := by
  unfold fewS at h
  simp only [Bool.and_eq_true, decide_eq_true_eq] at h
  exact ⟨h.1.1, h.1.2, h.2⟩
theorem nS_mem {l : List StmD} {x : StmD} (h : x ∈ l) : x.text.length + x.proof.length ≤ nS l := by
  unfold nS
  exact le_sumN (fun x : StmD => x.text.length + x.proof.length) h
theorem zS_mem {l : List StmD} {x : StmD} (h : x ∈ l) : x.label.length + (x.text ++ x.proof).flatten.length ≤ zS l := by
  unfold zS
  exact le_sumN (fun x : StmD => x.label.length + (x.text ++ x.proof).flatten.length) h
end Go.Proofs.YtpmbfcogkoiogaaGreatDoor
end
section
namespace Go.Proofs.YtpmbfcogkoiogaaGreatDoor
open Go.RowKit
attribute [local go_sem ↓] Go.wp_at_zero Go.wp_at_succ
theorem words_num (x : StmD) : (wordsS x).length ≤ x.text.length + x.proof.length + 4 := by
  unfold wordsS
  simp only [List.length_append, List.length_cons, List.length_nil]
  have a1 : ((if labS x.kind then [x.label] else []) : List (List UInt8)).length ≤ 1 := by split <;> simp
  have a2 : ((if x.kind = 7 then [36, 61] :: x.proof else []) : List (List UInt8)).length ≤ 1 + x.proof.length := by
    split
    · simp; omega
    · simp
  have a3 : ((if mostS x.kind = 0 then [] else [[36, 46]]) : List (List UInt8)).length ≤ 1 := by split <;> simp
  omega
theorem few_sz {l : List StmD} (h : fewS l = true) : PrSz l ∧ ∀ x ∈ l, StmOk x := by
  obtain ⟨h1, h2, h3⟩ := few_parts h
  have key : ∀ l : List StmD, sumL (l.flatMap wordsS) ≤ zS l + l.length * 6 ∧ (l.flatMap wordsS).length ≤ nS l + l.length * 4 := by
    intro l
    induction l with
    | nil => simp [sumL, zS, nS]
    | cons x l ih =>
      have a1 := words_flat x
      have a2 := words_num x
      have a3 : sumL (wordsS x) = (wordsS x).flatten.length := (flat_sum _).symm
      unfold zS nS at ih ⊢
      rw [List.flatMap_cons, sumL_app, List.length_append, List.map_cons, List.sum_cons, List.map_cons, List.sum_cons, List.length_cons]
      omega
  obtain ⟨k1, k2⟩ := key l
  have e : maxLen = 9223372036854775807 := by unfold maxLen; rfl
  refine ⟨⟨by omega, fun x hx => by have := nS_mem hx; omega, by omega, by omega⟩, fun x hx => ?_⟩
  have a1 := nS_mem hx
  have a2 := zS_mem hx
  rw [List.flatten_append, List.length_append] at a2
  refine ⟨by omega, fun u hu => ?_, fun u hu => ?_, by omega⟩
  · have := flat_mem hu; omega
  · have := flat_mem hu; omega
theorem of_fst (l : List StmD) (W : Int) (h : (ofS l W).2.2 = 0) : (ofS l W).1.map (·.1) = l := by
  unfold ofS at h ⊢
  split
  · exact prn_fst W l true 0
  · rename_i h1
    rw [if_neg h1] at h
    exact absurd h h1
theorem of_sz {l : List StmD} {W : Int} (h : PrSz l) : DocSz (ofS l W).1 := by
  unfold ofS
  split
  · have h1 := prn_fst W l true 0
    refine ⟨?_, fun x hx => ?_⟩
    · have := congrArg List.length h1
      rw [List.length_map] at this
      have := h.few
      dsimp only
      omega
    · have hm : x.1 ∈ l := h1 ▸ List.mem_map_of_mem hx
      have := h.ok x.1 hm
      omega
  · exact ⟨Nat.zero_le _, fun x hx => nomatch hx⟩
set_option maxRecDepth 100000 in
set_option maxHeartbeats 8000000 in
theorem law_prints (w : World) (v : Value) (l : List StmD) (W : Int) (h : Stms w v l) (hM : MaxAt w) (hF : FormsAt w) (hn : nS l ≤ 1048576) (hz : zS l ≤ 1048576) (hl : l.length ≤ 1048576) :
    Calls Tryz.prog 3 #[v, .int .i64 W] w fun e w' => e = .returned (.bool true) ∧ Below w.heap.size w w' := by
  have H := Lib.hid h
  have HM := Lib.hid hM
  have HF := Lib.hid hF
  obtain ⟨A1, c1, rfl, hc1, hm1, -⟩ := h.open_
  obtain ⟨fb, hfb⟩ : ∃ b, fewS l = b := ⟨_, rfl⟩
  have HFB := Lib.hid hfb
  have HN := Lib.hid (And.intro hn (And.intro hz hl))
  unfold maxLen at hm1
  clear h hM hF hfb hn hz hl
  go_enter Tryz.func3, Tryz.ntmps3
  go_wp2_with fail
  refine (few_any _ _ l H.out HN.out.1 HN.out.2.1 HN.out.2.2).mono ?_
  rw [HFB.out]
  rintro e w1 ⟨rfl, hb1⟩
  have HB1 := Lib.hid hb1
  clear hb1
  cases fb with
  | false =>
    go_wp2_with fail
    refine (awake03 _ (HF.out.below HB1.out)).mono ?_
    rintro e wz ⟨rfl, hbz⟩
    go_wp2_with fail
    go_ret
    exact ⟨rfl, then_ HB1.out hbz⟩
  | true =>
    obtain ⟨hs, ho⟩ := few_sz HFB.out
    have HS := Lib.hid hs
    have HO := Lib.hid ho
    clear hs ho
    go_wp2_with fail
    refine (print_any _ _ l W (H.out.below HB1.out) (HF.out.below HB1.out) HS.out).mono ?_
    obtain ⟨⟨S, z⟩, hp⟩ : ∃ R, printS l W = R := ⟨_, rfl⟩
    rw [hp]
    rintro e w2 ⟨rfl, hb2⟩
    have HP := Lib.hid hp
    have HB2 := Lib.hid (then_ HB1.out hb2)
    clear hp hb2
    go_wp2_with fail
    refine (ref_print _ _ l W (H.out.below HB2.out) HO.out HS.out).mono ?_
    rw [HP.out]
    rintro e w3 ⟨rfl, hb3⟩
    have HB3 := Lib.hid (then_ HB2.out hb3)
    clear hb3
    go_wp2_with fail
    refine (of_any _ _ l W (H.out.below HB3.out) (HM.out.below HB3.out) (HF.out.below HB3.out) HS.out).mono ?_
    obtain ⟨⟨d, tl, y⟩, hof⟩ : ∃ R, ofS l W = R := ⟨_, rfl⟩
    rw [hof]
    have hfst := of_fst l W
    have hdz := of_sz (W := W) HS.out
    rw [hof] at hfst hdz
    rintro e w4 ⟨v4, rfl, hp4, hb4⟩
    obtain ⟨A4, c4, rfl⟩ := hp4.form
    have HOF := Lib.hid hof
    have HFST := Lib.hid hfst
    have HDZ := Lib.hid hdz
    have HP4 := Lib.hid hp4
    have HB4 := Lib.hid (then_ HB3.out hb4)
    clear hof hp4 hb4 hfst hdz
    go_wp2_with fail
    obtain ⟨w5, hw5⟩ : ∃ w5, w5 = w4.alloc (.cells #[.slice A4 d.length c4, .string ⟨tl.toArray⟩] 30) := ⟨_, rfl⟩
    have HB5 : Hid (Below w.heap.size w w5) := Lib.hid (hw5 ▸ new_ HB4.out _)
    have HR5 : Hid (Row w5 w4.heap.size 30 #[.slice A4 d.length c4, .string ⟨tl.toArray⟩]) := Lib.hid (hw5 ▸ Row.new _ _ _)
    have HP5 : Hid (Parts w5 (.slice A4 d.length c4) d) := Lib.hid (hw5 ▸ HP4.out.below (new_ (Below.refl _ _) _))
    rw [← hw5]
    clear hw5
    refine (ref_of _ _ l W (H.out.below HB5.out) HO.out HS.out).mono ?_
    rw [HOF.out]
    rintro e w6 ⟨v6, rfl, hp6, hb6⟩
    obtain ⟨A6, c6, rfl⟩ := hp6.form
    have HP6 := Lib.hid hp6
    have HB6 := Lib.hid (then_ HB5.out hb6)
    have HR6 := Lib.hid (HR5.out.below hb6 HR5.out.lt)
    have HP56 := Lib.hid (HP5.out.below hb6)
    clear hp6 hb6
    go_wp2_with fail
    obtain ⟨w7, hw7⟩ : ∃ w7, w7 = w6.alloc (.cells #[.slice A6 d.length c6, .string ⟨tl.toArray⟩] 35) := ⟨_, rfl⟩
    have HB7 : Hid (Below w.heap.size w w7) := Lib.hid (hw7 ▸ new_ HB6.out _)
    have HR7 : Hid (Row w7 w4.heap.size 30 #[.slice A4 d.length c4, .string ⟨tl.toArray⟩]) := Lib.hid (hw7 ▸ HR6.out.alloc _)
    have HX7 : Hid (Row w7 w6.heap.size 35 #[.slice A6 d.length c6, .string ⟨tl.toArray⟩]) := Lib.hid (hw7 ▸ Row.new _ _ _)
    have HP7 : Hid (Parts w7 (.slice A4 d.length c4) d) := Lib.hid (hw7 ▸ HP56.out.below (new_ (Below.refl _ _) _))
    have HQ7 : Hid (Parts w7 (.slice A6 d.length c6) d) := Lib.hid (hw7 ▸ HP6.out.below (new_ (Below.refl _ _) _))
    have r0 := HR7.out.cell (i := 0) (v := .slice A4 d.length c4) rfl
    have r1 := HR7.out.cell (i := 1) (v := .string ⟨tl.toArray⟩) rfl
    have t0 := HX7.out.cell (i := 0) (v := .slice A6 d.length c6) rfl
    have t1 := HX7.out.cell (i := 1) (v := .string ⟨tl.toArray⟩) rfl
    have lt1 := HR7.out.lt
    have lt2 := HX7.out.lt
    have s1 : (S != S) = false := by simp
    have s2 : (z != z) = false := by simp
    have s3 : (S == S) = true := by simp
    have s4 : (z == z) = true := by simp
    have s5 : (y != y) = false := by simp
    have s6 : (y == y) = true := by simp
    have hdl : d.length ≤ 2000000 := HDZ.out.1
    rw [← hw7]
    clear hw7
    go_region_held3 (fun W' => W'.cell? ⟨w4.heap.size, 0, none⟩ = some (.slice A4 d.length c4) ∧ W'.cell? ⟨w4.heap.size, 1, none⟩ = some (.string ⟨tl.toArray⟩) ∧ W'.cell? ⟨w6.heap.size, 0, none⟩ = some (.slice A6 d.length c6) ∧ W'.cell? ⟨w6.heap.size, 1, none⟩ = some (.string ⟨tl.toArray⟩)) (go_keep) (first | (go_at_call 11; ((refine (document_any w7.drew (.slice A4 d.length c4) tl d (HP7.out.below (Below.refl _ _).drew) hdl).mono ?_); rintro e w8 ⟨v8, rfl, hp8, hb8⟩; obtain ⟨A8, c8, rfl⟩ := hp8.form; have HP8 := Lib.hid hp8; have HB8 := Lib.hid (then_ HB7.out (then_ (Below.refl _ _).drew hb8)); have HC8 := Lib.hid (then_ (Below.refl _ w7).drew hb8); have HQ8 := Lib.hid (HQ7.out.below (then_ (Below.refl _ _).drew hb8)); have HR8 := Lib.hid (HR7.out.below (then_ (Below.refl _ _).drew hb8) HR7.out.lt); have HX8 := Lib.hid (HX7.out.below (then_ (Below.refl _ _).drew hb8) HX7.out.lt); clear hp8 hb8; have a0 := HR8.out.cell (i := 0) (v := .slice A4 d.length c4) rfl; have a1 := HR8.out.cell (i := 1) (v := .string ⟨tl.toArray⟩) rfl; have a2 := HX8.out.cell (i := 0) (v := .slice A6 d.length c6) rfl; have a3 := HX8.out.cell (i := 1) (v := .string ⟨tl.toArray⟩) rfl)) | (go_at_call 10; ((refine (equal_doc w8 _ _ tl d HP8.out HQ8.out).mono ?_); rintro e w9 ⟨rfl, hb9⟩; have HB9 := Lib.hid (then_ HB8.out hb9); have HR9 := Lib.hid (HR8.out.below hb9 HR8.out.lt); have HX9 := Lib.hid (HX8.out.below hb9 HX8.out.lt); have HP9 := Lib.hid (HP7.out.below (then_ HC8.out hb9)); clear hb9; have b0 := HR9.out.cell (i := 0) (v := .slice A4 d.length c4) rfl; have b1 := HR9.out.cell (i := 1) (v := .string ⟨tl.toArray⟩) rfl; have b2 := HX9.out.cell (i := 0) (v := .slice A6 d.length c6) rfl; have b3 := HX9.out.cell (i := 1) (v := .string ⟨tl.toArray⟩) rfl)) | fail)
    by_cases hy : y = 0
    · have HFS2 : Hid (d.map (·.1) = l) := Lib.hid (HFST.out hy)
      have s7 : (y != 0) = false := by simpa using hy
      have s8 : (y == 0) = true := by simpa using hy
      clear hy
      go_wp2_with fail
      refine (statements_any _ _ tl d HP9.out HDZ.out).mono ?_
      rintro e w10 ⟨v10, rfl, hv10, hb10⟩
      rw [HFS2.out] at hv10
      have HB10 := Lib.hid (then_ HB9.out hb10)
      have HV10 := Lib.hid hv10
      obtain ⟨A10, c10, rfl, -⟩ := hv10.open_
      clear hv10 hb10
      go_wp2_with fail
      refine (equalStms _ _ _ l HV10.out (H.out.below HB10.out)).mono ?_
      rintro e w11 ⟨rfl, hb11⟩
      have HB11 := Lib.hid (then_ HB10.out hb11)
      clear hb11
      go_wp2_with fail
      refine (awake03 _ (HF.out.below HB11.out)).mono ?_
      rintro e wz ⟨rfl, hbz⟩
      go_wp2_with fail
      go_ret
      exact ⟨rfl, then_ HB11.out hbz⟩
    · have s7 : (y != 0) = true := by simpa using hy
      have s8 : (y == 0) = false := by simpa using hy
      clear hy
      go_wp2_with fail
      refine (awake03 _ (HF.out.below HB9.out)).mono ?_
      rintro e wz ⟨rfl, hbz⟩
      go_wp2_with fail
      go_ret
      exact ⟨rfl, then_ HB9.out hbz⟩
end Go.Proofs.YtpmbfcogkoiogaaGreatDoor
end
