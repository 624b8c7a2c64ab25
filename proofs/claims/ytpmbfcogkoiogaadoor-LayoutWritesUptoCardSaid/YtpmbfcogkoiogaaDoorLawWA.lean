/- LayoutWrites: what the guard says of the sizes. LayoutWrites: Statements and Write of a document are the reference's; Read of the text is the document. -/
import Derived.Test.YtpmbfcogkoiogaaDoorRefWA
import Derived.Test.YtpmbfcogkoiogaaDoorWriteRA
import Derived.Test.YtpmbfcogkoiogaaDoorLayParA
import Derived.Test.YtpmbfcogkoiogaaDoorDocLA
import Derived.Test.YtpmbfcogkoiogaaDoorOpenDA
section
namespace Go.Proofs.YtpmbfcogkoiogaaDoor
/-- the gaps of a part, with their number -/
def gN (x : PartD) : Nat := x.2.flatten.length + x.2.length
def gsN (d : List PartD) (tl : List UInt8) : Nat := tl.length + (d.map gN).sum
theorem flat_sum : ∀ l : List (List UInt8), l.flatten.length = (l.map (·.length)).sum
  | [] => rfl
  | a :: l => by rw [List.flatten_cons, List.length_append, flat_sum l]; rfl
theorem le_sumN {α : Type} (f : α → Nat) {l : List α} {x : α} (h : x ∈ l) : f x ≤ (l.map f).sum := by
  induction l with
  | nil => cases h
  | cons a l ih =>
    rw [List.map_cons, List.sum_cons]
    rcases List.mem_cons.1 h with rfl | h
    · omega
    · have := ih h; omega
theorem flat_mem {l : List (List UInt8)} {u : List UInt8} (h : u ∈ l) : u.length ≤ l.flatten.length := by
  induction l with
  | nil => cases h
  | cons a r ih =>
    rw [List.flatten_cons, List.length_append]
    rcases List.mem_cons.1 h with rfl | h
    · omega
    · have := ih h; omega
theorem kwOf_len (k : Int) : (kwOf k).length ≤ 2 := by
  unfold kwOf kwN
  split <;> simp
theorem words_flat (x : StmD) : (wordsS x).flatten.length ≤ x.label.length + (x.text ++ x.proof).flatten.length + 6 := by
  have h1 := kwOf_len x.kind
  unfold wordsS
  simp only [List.flatten_append, List.length_append, List.flatten_cons, List.flatten_nil, List.append_nil]
  have a1 : ((if labS x.kind then [x.label] else []) : List (List UInt8)).flatten.length ≤ x.label.length := by split <;> simp
  have a2 : ((if x.kind = 7 then [36, 61] :: x.proof else []) : List (List UInt8)).flatten.length ≤ 2 + x.proof.flatten.length := by
    split
    · rw [List.flatten_cons, List.length_append]; simp
    · simp
  have a3 : ((if mostS x.kind = 0 then [] else [[36, 46]]) : List (List UInt8)).flatten.length ≤ 2 := by split <;> simp
  omega
theorem zip_flat : ∀ (g w : List (List UInt8)), ((g.zip w).flatMap fun p => p.1 ++ p.2).length ≤ g.flatten.length + w.flatten.length
  | [], w => by simp
  | a :: g, [] => by simp
  | a :: g, b :: w => by
    have := zip_flat g w
    rw [List.zip_cons_cons, List.flatMap_cons, List.flatten_cons, List.flatten_cons]
    simp only [List.length_append]
    omega
theorem out_len : ∀ (d : List PartD), (outS d).length ≤ (d.map gN).sum + zS (d.map (·.1)) + d.length * 6
  | [] => by simp [outS, zS]
  | x :: d => by
    have ih := out_len d
    have h1 := zip_flat x.2 (wordsS x.1)
    have h2 := words_flat x.1
    have h3 : (outS (x :: d)).length = (outP x).length + (outS d).length := by unfold outS; rw [List.flatMap_cons, List.length_append]
    have h4 : (outP x).length ≤ x.2.flatten.length + (wordsS x.1).flatten.length := h1
    unfold zS at ih ⊢
    simp only [List.map_cons, List.sum_cons, List.length_cons]
    have h5 : x.2.flatten.length ≤ gN x := by unfold gN; omega
    omega
theorem few_parts {l : List StmD} (h : fewS l = true) : l.length ≤ 60 ∧ nS l ≤ 300 ∧ zS l ≤ 3000 := by
  unfold fewS at h
  simp only [Bool.and_eq_true, decide_eq_true_eq] at h
  exact ⟨h.1.1, h.1.2, h.2⟩
theorem nS_mem {l : List StmD} {x : StmD} (h : x ∈ l) : x.text.length + x.proof.length ≤ nS l := by
  unfold nS
  exact le_sumN (fun x : StmD => x.text.length + x.proof.length) h
theorem zS_mem {l : List StmD} {x : StmD} (h : x ∈ l) : x.label.length + (x.text ++ x.proof).flatten.length ≤ zS l := by
  unfold zS
  exact le_sumN (fun x : StmD => x.label.length + (x.text ++ x.proof).flatten.length) h
/-- the sizes, by the guard -/
structure Smalls (d : List PartD) (tl : List UInt8) : Prop where
  n : gsN d tl ≤ 3000
  few : fewS (d.map (·.1)) = true
section
variable {d : List PartD} {tl : List UInt8}
theorem Smalls.len (h : Smalls d tl) : d.length ≤ 60 := by
  have := (few_parts h.few).1
  simpa using this
theorem Smalls.stm (h : Smalls d tl) {x : PartD} (hx : x ∈ d) : x.1.text.length + x.1.proof.length ≤ 300 ∧ x.1.label.length + (x.1.text ++ x.1.proof).flatten.length ≤ 3000 := by
  obtain ⟨_, h2, h3⟩ := few_parts h.few
  have hm : x.1 ∈ d.map (·.1) := List.mem_map_of_mem hx
  exact ⟨Nat.le_trans (nS_mem hm) h2, Nat.le_trans (zS_mem hm) h3⟩
theorem Smalls.tail (h : Smalls d tl) : tl.length ≤ 3000 := by have := h.n; unfold gsN at this; omega
theorem Smalls.gap (h : Smalls d tl) {x : PartD} (hx : x ∈ d) {g : List UInt8} (hg : g ∈ x.2) : g.length ≤ 3000 := by
  have h1 := flat_mem hg
  have h2 : gN x ≤ (d.map gN).sum := le_sumN gN hx
  have h3 := h.n
  unfold gsN at h3
  have h4 : gN x = x.2.flatten.length + x.2.length := rfl
  omega
theorem Smalls.word (h : Smalls d tl) {x : PartD} (hx : x ∈ d) {u : List UInt8} (hu : u ∈ wordsS x.1) : u.length ≤ 1000000 := by
  have h1 := flat_mem hu
  have h2 := words_flat x.1
  have h3 := (h.stm hx).2
  omega
theorem Smalls.all (h : Smalls d tl) : (outS d ++ tl).length ≤ 1000000 := by
  have h1 := out_len d
  have h2 := (few_parts h.few).2.2
  have h3 := h.n
  have h4 := h.len
  unfold gsN at h3
  rw [List.length_append]
  omega
theorem Smalls.doc (h : Smalls d tl) : DocSz d := ⟨by have := h.len; omega, fun x hx => by have := (h.stm hx).1; omega⟩
theorem Smalls.ok (h : Smalls d tl) {x : PartD} (hx : x ∈ d) : StmOk x.1 := by
  obtain ⟨h1, h2⟩ := h.stm hx
  rw [List.flatten_append, List.length_append] at h2
  have e : maxLen = 9223372036854775807 := by unfold maxLen; rfl
  refine ⟨by omega, fun u hu => ?_, fun u hu => ?_, by omega⟩
  · have := flat_mem hu; omega
  · have := flat_mem hu; omega
theorem Smalls.ref (h : Smalls d tl) : RefSz d tl :=
  ⟨h.doc, fun x hx => h.ok hx, fun x hx g hg => by have := h.gap hx hg; omega, by have := h.tail; omega, h.all, fun x hx u hu => h.word hx hu⟩
theorem Smalls.prog (h : Smalls d tl) : WrSz d tl :=
  ⟨h.doc, fun x hx => (h.ok hx).2.2.2, fun x hx g hg => by have := h.gap hx hg; omega, by have := h.tail; omega, h.all, fun x hx u hu => h.word hx hu⟩
end
end Go.Proofs.YtpmbfcogkoiogaaDoor
end
section
namespace Go.Proofs.YtpmbfcogkoiogaaDoor
open Go.RowKit
attribute [local go_sem ↓] Go.wp_at_zero Go.wp_at_succ
theorem gsN_snoc {d : List PartD} {i : Nat} {y : PartD} (h : d[i]? = some y) (n : Nat) : n + ((d.take (i + 1)).map gN).sum = n + ((d.take i).map gN).sum + (y.2.flatten.length + y.2.length) := by
  rw [take_snoc h, List.map_append, List.sum_append]
  simp [gN]
  omega
theorem sumN_take {α : Type} (f : α → Nat) (l : List α) (k : Nat) : ((l.take k).map f).sum ≤ (l.map f).sum := by
  have := List.take_append_drop k l
  conv => rhs; rw [← this]
  rw [List.map_append, List.sum_append]
  omega
/-- what the argument's bulk says -/
theorem bulk_parts {d : List PartD} {B : Nat} (h : (d.map partN).sum ≤ B) : nS (d.map (·.1)) ≤ B ∧ zS (d.map (·.1)) ≤ B ∧ (d.map gN).sum ≤ B ∧ d.length * 3 ≤ B := by
  have key : ∀ d : List PartD, (d.map partN).sum = nS (d.map (·.1)) + zS (d.map (·.1)) + (d.map gN).sum + d.length * 3 := by
    intro d
    induction d with
    | nil => rfl
    | cons x d ih =>
      unfold nS zS at ih ⊢
      simp only [List.map_cons, List.sum_cons, List.length_cons, ih]
      unfold partN gN
      omega
  have := key d
  omega
set_option maxRecDepth 100000 in
set_option maxHeartbeats 8000000 in
theorem law_writes (w : World) (v : Value) (tl : List UInt8) (d : List PartD) (h : Parts w v d) (hM : MaxAt w) (hF : FormsAt w) (hbulk : (d.map partN).sum + tl.length ≤ 1048576) :
    Calls Tryd.prog 6 #[.agg #[v, .string ⟨tl.toArray⟩]] w fun e w' => e = .returned (.bool true) ∧ Below w.heap.size w w' := by
  have H := Lib.hid h
  have HM := Lib.hid hM
  have HF := Lib.hid hF
  obtain ⟨A1, c1, rfl, hc1, hm1, -⟩ := h.open_
  unfold maxLen at hm1
  obtain ⟨hb1, hb2, hb3, hb4⟩ := bulk_parts (d := d) (B := 1048576 - tl.length) (by omega)
  have HBK := Lib.hid (And.intro hb1 (And.intro hb2 hb3))
  have hd : d.length ≤ 400000 := by omega
  have htl : tl.length ≤ 1048576 := by omega
  clear h hM hF hb1 hb2 hb3 hb4 hbulk
  go_enter Tryd.func6, Tryd.ntmps6
  go_wp2_with fail
  go_loopw [3, 20] (fun nv iv wr => ∃ i : Nat, i ≤ d.length ∧ iv = .int .i64 i ∧ nv = .int .i64 ((tl.length + ((d.take i).map gN).sum : Nat) : Int) ∧ Row wr w.heap.size 40 #[.slice A1 d.length c1, .string ⟨tl.toArray⟩] ∧ Below w.heap.size w wr) (fun _ iv _ => d.length - (intOf iv).toNat)
  case atStart => exact ⟨0, Nat.zero_le _, rfl, rfl, Row.new _ _ _, new_ (Below.refl _ _) _⟩
  case round =>
    obtain ⟨wo, rfl⟩ : ∃ wo, wo = wr := ⟨_, rfl⟩
    obtain ⟨i, hi, rfl, rfl, hrow, hB⟩ := hrel
    have HROW := Lib.hid hrow
    have HB := Lib.hid hB
    have hs0 := sumN_take gN d i
    have hs1 := HBK.out.2.2
    obtain ⟨N, hN⟩ : ∃ N, tl.length + ((d.take i).map gN).sum = N := ⟨_, rfl⟩
    have hNl : N ≤ 1048576 := by omega
    rw [hN]
    clear hB hs0 hs1
    by_cases hlt : i < d.length
    · obtain ⟨y, hy⟩ : ∃ y, d[i]? = some y := ⟨_, List.getElem?_eq_getElem hlt⟩
      obtain ⟨A', c', hv, _, _, hxx⟩ := (H.out.below HB.out).open_
      obtain ⟨b, o, tv, pv, gv, hA, g0, g1, g2, g3, g4, hT, hP, hG⟩ := hxx i y hy
      obtain ⟨rfl, _, rfl⟩ := (by simpa using hv : A1 = A' ∧ True ∧ c1 = c')
      subst hA
      obtain ⟨T1, d1, rfl, -⟩ := hT.open_
      obtain ⟨P1, d2, rfl, -⟩ := hP.open_
      obtain ⟨G1, f1, rfl, -⟩ := hG.open_
      have hmem := List.mem_of_getElem? hy
      have hg1 := le_sumN gN hmem
      have hg2 := HBK.out.2.2
      have hg3 : gN y = y.2.flatten.length + y.2.length := rfl
      have hgl : y.2.flatten.length ≤ 1048576 := by omega
      have hgn : y.2.length ≤ 1048576 := by omega
      have HG := Lib.hid hG
      have hss := gsN_snoc hy tl.length
      obtain ⟨FL, hFL⟩ : ∃ FL, y.2.flatten = FL := ⟨_, rfl⟩
      rw [hFL] at hgl hss
      have HFL := Lib.hid hFL
      have HFZ : Hid (y.2.flatten.length ≤ 140737488355328) := Lib.hid (by rw [hFL]; omega)
      have HS := Lib.hid hss
      clear hss hFL
      have hr8 := Row.new wo 62 #[.int .i64 y.1.kind, .string ⟨y.1.label.toArray⟩, .slice T1 y.1.text.length d1, .slice P1 y.1.proof.length d2, .slice G1 y.2.length f1]
      have p4 := hr8.cell (i := 4) (v := .slice G1 y.2.length f1) rfl
      clear hxx hv hT hP hG hmem hy hrow hr8 hg1 hg2 hg3
      rw [hN] at HS
      clear hN
      have ew1 : IntKind.i64.wrap ((FL.length : Int) + (y.2.length : Int)) = (FL.length : Int) + (y.2.length : Int) := IntWalk.i64_in _ (by omega)
      have ew2 : IntKind.i64.wrap ((N : Int) + ((FL.length : Int) + (y.2.length : Int))) = (N : Int) + ((FL.length : Int) + (y.2.length : Int)) := IntWalk.i64_in _ (by omega)
      go_wp2_with fail
      go_region_held3 (fun W' => W'.cell? ⟨wo.heap.size, 4, none⟩ = some (.slice G1 y.2.length f1)) (go_keep) ((go_at_call 29; (refine (join_any _ _ y.2 (Strs.below HG.out (new_ (Below.refl _ _) _).drew) HFZ.out (by omega)).mono ?_; rw [HFL.out]; rintro e w5 ⟨rfl, hb5⟩; have k4 := (hb5.cell (p := ⟨wo.heap.size, 4, none⟩) (by simp)).trans p4; have HB5 := Lib.hid (then_ (new_ (Below.refl _ wo) _).drew hb5))))
      clear ew1 ew2
      go_wp2_with fail
      go_roundw
      case rel => exact ⟨i + 1, by omega, by go_num, by rw [HS.out]; go_num, HROW.out.below HB5.out HROW.out.lt, then_ HB.out HB5.out⟩
      case measure => simp [intOf]; omega
    · obtain rfl : i = d.length := by omega
      rw [List.take_length] at hN
      have hN2 : gsN d tl = N := hN
      have q0 := hrow.cell (i := 0) (v := .slice A1 d.length c1) rfl
      have q1 := hrow.cell (i := 1) (v := .string ⟨tl.toArray⟩) rfl
      have HN := Lib.hid hN2
      have hlw := hrow.lt
      clear hN hN2 hrow
      go_wp2_with fail
      refine (document_any _ _ tl d (H.out.below HB.out) (by omega)).mono ?_
      rintro e w2 ⟨v2, rfl, hp2, hb2⟩
      obtain ⟨A2, c2, rfl⟩ := hp2.form
      have HP2 := Lib.hid hp2
      have HB2 := Lib.hid (then_ HB.out hb2)
      have HROW2 := Lib.hid (HROW.out.below hb2 HROW.out.lt)
      clear hp2 hb2 q0 q1
      go_wp2_with fail
      refine (ref_statements _ _ tl d HP2.out (by omega)).mono ?_
      rintro e w3 ⟨v3, rfl, hv3, hb3⟩
      have HV3 := Lib.hid hv3
      have HB3 := Lib.hid (then_ HB2.out hb3)
      have HROW3 := Lib.hid (HROW2.out.below hb3 HROW2.out.lt)
      obtain ⟨A3, c3, rfl, -⟩ := hv3.open_
      rw [List.length_map]
      replace HV3 : Hid (Stms w3 (.slice A3 d.length c3) (d.map (·.1))) := Lib.hid (by have h := HV3.out; rwa [List.length_map] at h)
      clear hv3 hb3
      by_cases hn3 : 3000 < N
      · have e1 : decide ((3000 : Int) < (N : Int)) = true := decide_eq_true (by omega)
        have e2 : decide (3000 < N) = true := decide_eq_true hn3
        clear hn3
        go_wp2_with fail
        refine (awake03 _ (HF.out.below HB3.out)).mono ?_
        rintro e wz ⟨rfl, hbz⟩
        go_wp2_with fail
        go_ret
        exact ⟨rfl, then_ HB3.out hbz⟩
      · have e1 : decide ((3000 : Int) < (N : Int)) = false := decide_eq_false (by omega)
        have e2 : decide (3000 < N) = false := decide_eq_false hn3
        have HN3 := Lib.hid hn3
        clear hn3
        obtain ⟨fb, hfb⟩ : ∃ b, fewS (d.map (·.1)) = b := ⟨_, rfl⟩
        have HFB := Lib.hid hfb
        clear hfb
        go_wp2_with fail
        refine (few_any _ _ (d.map (·.1)) ?_ (by have := HBK.out; omega) (by have := HBK.out; omega) (by rw [List.length_map]; omega)).mono ?_
        · exact HV3.out
        rw [HFB.out]
        rintro e w4 ⟨rfl, hb4⟩
        have HB4 := Lib.hid (then_ HB3.out hb4)
        have HV4 := Lib.hid (HV3.out.below hb4)
        have HROW4 := Lib.hid (HROW3.out.below hb4 HROW3.out.lt)
        clear hb4
        cases fb with
        | false =>
          go_wp2_with fail
          refine (awake03 _ (HF.out.below HB4.out)).mono ?_
          rintro e wz ⟨rfl, hbz⟩
          go_wp2_with fail
          go_ret
          exact ⟨rfl, then_ HB4.out hbz⟩
        | true =>
          have HSM : Hid (Smalls d tl) := Lib.hid ⟨by rw [HN.out]; have := HN3.out; omega, HFB.out⟩
          have q0 := HROW4.out.cell (i := 0) (v := .slice A1 d.length c1) rfl
          have q1 := HROW4.out.cell (i := 1) (v := .string ⟨tl.toArray⟩) rfl
          go_wp2_with fail
          refine (statements_any _ _ tl d (H.out.below HB4.out) HSM.out.doc).mono ?_
          rintro e w5 ⟨v5, rfl, hv5, hb5⟩
          have HB5 := Lib.hid (then_ HB4.out hb5)
          have HV5 := Lib.hid hv5
          have HV45 := Lib.hid (HV4.out.below hb5)
          have HROW5 := Lib.hid (HROW4.out.below hb5 HROW4.out.lt)
          obtain ⟨A5, c5, rfl, -⟩ := hv5.open_
          rw [List.length_map]
          replace HV5 : Hid (Stms w5 (.slice A5 d.length c5) (d.map (·.1))) := Lib.hid (by have h := HV5.out; rwa [List.length_map] at h)
          clear hv5 hb5 q0 q1
          go_wp2_with fail
          refine (equalStms _ _ _ (d.map (·.1)) HV5.out HV45.out).mono ?_
          rintro e w6 ⟨rfl, hb6⟩
          have HB6 := Lib.hid (then_ HB5.out hb6)
          have HROW6 := Lib.hid (HROW5.out.below hb6 HROW5.out.lt)
          have q0 := HROW6.out.cell (i := 0) (v := .slice A1 d.length c1) rfl
          have q1 := HROW6.out.cell (i := 1) (v := .string ⟨tl.toArray⟩) rfl
          clear hb6
          go_wp2_with fail
          refine (write_doc _ _ tl d (H.out.below HB6.out) (HM.out.below HB6.out) (HF.out.below HB6.out) HSM.out.prog).mono ?_
          obtain ⟨⟨S, z⟩, hS⟩ : ∃ R, writeS d tl = R := ⟨_, rfl⟩
          rw [hS]
          rintro e w7 ⟨rfl, hb7⟩
          have HS := Lib.hid hS
          have HB7 := Lib.hid (then_ HB6.out hb7)
          have HROW7 := Lib.hid (HROW6.out.below hb7 HROW6.out.lt)
          have q2 := HROW7.out.cell (i := 0) (v := .slice A1 d.length c1) rfl
          have q3 := HROW7.out.cell (i := 1) (v := .string ⟨tl.toArray⟩) rfl
          clear hb7 q0 q1 hS
          go_wp2_with fail
          refine (document_any _ _ tl d (H.out.below HB7.out) (by omega)).mono ?_
          rintro e w8 ⟨v8, rfl, hp8, hb8⟩
          obtain ⟨A8, c8, rfl⟩ := hp8.form
          have HP8 := Lib.hid hp8
          have HB8 := Lib.hid (then_ HB7.out hb8)
          have HROW8 := Lib.hid (HROW7.out.below hb8 HROW7.out.lt)
          clear hp8 hb8 q2 q3
          go_wp2_with fail
          refine (ref_write_doc _ _ tl d HP8.out HSM.out.ref).mono ?_
          rw [HS.out]
          rintro e w9 ⟨rfl, hb9⟩
          have HB9 := Lib.hid (then_ HB8.out hb9)
          have HROW9 := Lib.hid (HROW8.out.below hb9 HROW8.out.lt)
          clear hb9
          have s1 : (S != S) = false := by simp
          have s2 : (z != z) = false := by simp
          have s3 : (S == S) = true := by simp
          have s4 : (z == z) = true := by simp
          by_cases hz : z = 0
          · subst hz
            have s5 : ((0 : Int) == 0) = true := rfl
            have s6 : ((0 : Int) != 0) = false := rfl
            have hdoc : docS S = (d, tl, 0, 0) := by
              have h0 : (writeS d tl).2 = 0 := by rw [HS.out]
              have h1 := write_read h0
              rwa [HS.out] at h1
            have HD := Lib.hid hdoc
            have HSL : Hid (S.length ≤ 1000000) := Lib.hid (by
              have h1 := HSM.out.all
              have h2 := HS.out
              unfold writeS at h2
              repeat' split at h2
              all_goals (injection h2 with e1 _; rw [← e1]; first | exact h1 | simp))
            clear hdoc
            go_wp2_with fail
            refine (doc_read _ S (HM.out.below HB9.out) HSL.out (HF.out.below HB9.out)).mono ?_
            rw [HD.out]
            rintro e w10 ⟨v10, rfl, hp10, hb10⟩
            obtain ⟨A10, c10, rfl⟩ := hp10.form
            have HP10 := Lib.hid hp10
            have HB10 := Lib.hid (then_ HB9.out hb10)
            have HROW10 := Lib.hid (HROW9.out.below hb10 HROW9.out.lt)
            clear hp10 hb10
            go_wp2_with fail
            have q0 := HROW10.out.cell (i := 0) (v := .slice A1 d.length c1) rfl
            have q1 := HROW10.out.cell (i := 1) (v := .string ⟨tl.toArray⟩) rfl
            obtain ⟨w11, hw11⟩ : ∃ w11, w11 = w10.alloc (.cells #[.slice A10 d.length c10, .string ⟨tl.toArray⟩] 40) := ⟨_, rfl⟩
            have HB11 : Hid (Below w.heap.size w w11) := Lib.hid (hw11 ▸ new_ HB10.out _)
            have HR11 : Hid (Row w11 w.heap.size 40 #[.slice A1 d.length c1, .string ⟨tl.toArray⟩]) := Lib.hid (hw11 ▸ HROW10.out.alloc _)
            have HX11 : Hid (Row w11 w10.heap.size 40 #[.slice A10 d.length c10, .string ⟨tl.toArray⟩]) := Lib.hid (hw11 ▸ Row.new _ _ _)
            have HP11 : Hid (Parts w11 (.slice A10 d.length c10) d) := Lib.hid (hw11 ▸ HP10.out.below (new_ (Below.refl _ _) _))
            have r0 := HR11.out.cell (i := 0) (v := .slice A1 d.length c1) rfl
            have r1 := HR11.out.cell (i := 1) (v := .string ⟨tl.toArray⟩) rfl
            have t0 := HX11.out.cell (i := 0) (v := .slice A10 d.length c10) rfl
            have t1 := HX11.out.cell (i := 1) (v := .string ⟨tl.toArray⟩) rfl
            have lt1 := HR11.out.lt
            have lt2 := HX11.out.lt
            rw [← hw11]
            clear hw11 q0 q1
            have HZ1 := Lib.hid lt1
            have HZ2 := Lib.hid lt2
            have hdl : d.length ≤ 2000000 := by omega
            go_region_held3 (fun W' => W'.cell? ⟨w.heap.size, 0, none⟩ = some (.slice A1 d.length c1) ∧ W'.cell? ⟨w.heap.size, 1, none⟩ = some (.string ⟨tl.toArray⟩) ∧ W'.cell? ⟨w10.heap.size, 0, none⟩ = some (.slice A10 d.length c10) ∧ W'.cell? ⟨w10.heap.size, 1, none⟩ = some (.string ⟨tl.toArray⟩)) (go_keep) (first | (go_at_call 22; ((with_reducible refine (document_any w11.drew (.slice A10 d.length c10) tl d (HP11.out.below (Below.refl _ _).drew) hdl).mono ?_); rintro e w12 ⟨v12, rfl, hp12, hb12⟩; obtain ⟨A12, c12, rfl⟩ := hp12.form; have HP12 := Lib.hid hp12; have HB12 := Lib.hid (then_ HB11.out (then_ (Below.refl _ _).drew hb12)); have HR12 := Lib.hid (HR11.out.below (then_ (Below.refl _ _).drew hb12) HR11.out.lt); have HX12 := Lib.hid (HX11.out.below (then_ (Below.refl _ _).drew hb12) HX11.out.lt); clear hp12 hb12; have a0 := HR12.out.cell (i := 0) (v := .slice A1 d.length c1) rfl; have a1 := HR12.out.cell (i := 1) (v := .string ⟨tl.toArray⟩) rfl; have a2 := HX12.out.cell (i := 0) (v := .slice A10 d.length c10) rfl; have a3 := HX12.out.cell (i := 1) (v := .string ⟨tl.toArray⟩) rfl)) | (go_at_call 22; ((with_reducible refine (document_any w12 (.slice A1 d.length c1) tl d (H.out.below HB12.out) hdl).mono ?_); rintro e w13 ⟨v13, rfl, hp13, hb13⟩; obtain ⟨A13, c13, rfl⟩ := hp13.form; have HP13 := Lib.hid hp13; have HP123 := Lib.hid (HP12.out.below hb13); have HB13 := Lib.hid (then_ HB12.out hb13); have HR13 := Lib.hid (HR12.out.below hb13 HR12.out.lt); have HX13 := Lib.hid (HX12.out.below hb13 HX12.out.lt); clear hp13 hb13; have b0 := HR13.out.cell (i := 0) (v := .slice A1 d.length c1) rfl; have b1 := HR13.out.cell (i := 1) (v := .string ⟨tl.toArray⟩) rfl; have b2 := HX13.out.cell (i := 0) (v := .slice A10 d.length c10) rfl; have b3 := HX13.out.cell (i := 1) (v := .string ⟨tl.toArray⟩) rfl)) | (go_at_call 21; ((refine (equal_doc w13 _ _ tl d HP123.out HP13.out).mono ?_); rintro e w14 ⟨rfl, hb14⟩; have HB14 := Lib.hid (then_ HB13.out hb14); have HR14 := Lib.hid (HR13.out.below hb14 HR13.out.lt); have HX14 := Lib.hid (HX13.out.below hb14 HX13.out.lt); clear hb14; have c0 := HR14.out.cell (i := 0) (v := .slice A1 d.length c1) rfl; have c1' := HR14.out.cell (i := 1) (v := .string ⟨tl.toArray⟩) rfl; have c2' := HX14.out.cell (i := 0) (v := .slice A10 d.length c10) rfl; have c3' := HX14.out.cell (i := 1) (v := .string ⟨tl.toArray⟩) rfl)))
            go_wp2_with fail
            refine (awake03 _ (HF.out.below HB14.out)).mono ?_
            rintro e wz ⟨rfl, hbz⟩
            go_wp2_with fail
            go_ret
            exact ⟨rfl, then_ HB14.out hbz⟩
          · have s5 : (z == 0) = false := by simpa using hz
            clear hz
            go_wp2_with fail
            refine (awake03 _ (HF.out.below HB9.out)).mono ?_
            rintro e wz ⟨rfl, hbz⟩
            go_wp2_with fail
            go_ret
            exact ⟨rfl, then_ HB9.out hbz⟩
end Go.Proofs.YtpmbfcogkoiogaaDoor
end
