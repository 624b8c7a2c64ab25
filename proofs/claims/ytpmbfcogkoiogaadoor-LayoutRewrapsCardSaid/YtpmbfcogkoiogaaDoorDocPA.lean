/- Layout: the words of the statements that were read are the words. Layout: the statements that are read are well-formed. Layout: the gaps of a text. Layout: gaps dealt out to the statements. -/
import Derived.Test.YtpmbfcogkoiogaaDoorLayPlain
import Derived.Test.YtpmbfcogkoiogaaDoorPlainA
section
namespace Go.Proofs.YtpmbfcogkoiogaaDoor
theorem kw_kind {s : List UInt8} (h : kindS s ≠ 0) : kwOf (kindS s : Int) = s := by
  unfold kindS at h ⊢
  split at h
  · rename_i hm
    rw [if_pos hm]
    unfold kwOf
    revert s
    decide
  · exact absurd rfl h
theorem most_lab {k : Int} (h : labS k = true) : mostS k ≠ 0 := by
  unfold labS at h
  unfold mostS
  simp only [Bool.or_eq_true, beq_iff_eq] at h
  rcases h with ((h | h) | h) | h <;> subst h <;> decide
def headW (x : StmD) : List (List UInt8) := (if labS x.kind then [x.label] else []) ++ [kwOf x.kind] ++ x.text
def doneW : PSt → List (List UInt8)
  | .begin => []
  | .key l => [l]
  | .text s => headW s
  | .proof s => headW s ++ [36, 61] :: s.proof
def invW : PSt → Prop
  | .text s => mostS s.kind ≠ 0 ∧ s.proof = []
  | .proof s => s.kind = 7
  | _ => True
theorem step_more {s t : PSt} {w : List UInt8} (hi : invW s) (h : pstep s w = .inl t) : invW t ∧ doneW t = doneW s ++ [w] := by
  cases s with
  | begin =>
    simp only [pstep] at h
    split at h
    · rename_i hk
      split at h
      · cases h
      · rename_i hl
        split at h
        · cases h
        · rename_i hm
          cases h
          refine ⟨⟨hm, rfl⟩, ?_⟩
          show headW _ = _
          unfold headW
          dsimp only
          rw [if_neg hl, kw_kind hk]
          rfl
    · split at h
      · cases h
      · split at h
        · cases h
          exact ⟨trivial, rfl⟩
        · cases h
  | key l =>
    simp only [pstep] at h
    split at h
    · cases h
    · rename_i hk
      split at h
      · rename_i hl
        cases h
        refine ⟨⟨most_lab hl, rfl⟩, ?_⟩
        show headW _ = _
        unfold headW
        dsimp only
        rw [if_pos hl, kw_kind hk]
        rfl
      · cases h
  | text x =>
    simp only [pstep] at h
    split at h
    · rename_i hw
      split at h
      · cases h
      · split at h
        · rename_i he
          subst he
          cases h
          have hk : x.kind = 7 := by
            rcases hw with hw | hw
            · exact absurd hw (by decide)
            · exact hw.2
          refine ⟨hk, ?_⟩
          show headW x ++ [36, 61] :: x.proof = headW x ++ [[36, 61]]
          rw [hi.2]
        · split at h <;> cases h
    · split at h
      · cases h
      · split at h
        · split at h
          · cases h
          · cases h
            refine ⟨hi, ?_⟩
            show headW _ = headW x ++ [w]
            unfold headW
            simp
        · cases h
  | proof x =>
    simp only [pstep] at h
    split at h
    · cases h
    · split at h
      · cases h
      · split at h
        · cases h
          refine ⟨hi, ?_⟩
          show headW x ++ [36, 61] :: (x.proof ++ [w]) = (headW x ++ [36, 61] :: x.proof) ++ [w]
          simp
        · cases h
theorem step_done {s : PSt} {x : StmD} {w : List UInt8} (hi : invW s) (h : pstep s w = .inr (.inl x)) : wordsS x = doneW s ++ [w] := by
  cases s with
  | begin =>
    simp only [pstep] at h
    split at h
    · rename_i hk
      split at h
      · cases h
      · rename_i hl
        split at h
        · rename_i hm
          cases h
          unfold wordsS
          dsimp only
          rw [if_neg hl, kw_kind hk, if_pos hm, if_neg (fun h7 => hl (by rw [h7]; rfl))]
          rfl
        · cases h
    · split at h
      · cases h
      · split at h <;> cases h
  | key l =>
    simp only [pstep] at h
    split at h
    · cases h
    · split at h <;> cases h
  | text y =>
    simp only [pstep] at h
    split at h
    · rename_i hw
      split at h
      · cases h
      · split at h
        · cases h
        · rename_i hne
          split at h
          · cases h
          · rename_i h7
            cases h
            have he : w = [36, 46] := by
              rcases hw with hw | hw
              · exact hw
              · exact absurd hw.1 hne
            subst he
            unfold wordsS
            rw [if_neg h7, if_neg hi.1, List.append_nil]
            rfl
    · split at h
      · cases h
      · split at h
        · split at h <;> cases h
        · cases h
  | proof y =>
    simp only [pstep] at h
    split at h
    · rename_i hw
      cases h
      subst hw
      have h7 : x.kind = 7 := hi
      have h2 : mostS x.kind ≠ 0 := by rw [h7]; decide
      unfold wordsS
      rw [if_pos h7, if_neg h2]
      rfl
    · split at h
      · cases h
      · split at h <;> cases h
theorem step_bad {s : PSt} {w : List UInt8} {b : Bool} {z : Int} (h : pstep s w = .inr (.inr (b, z))) : z ≠ 0 := by
  cases s <;> simp only [pstep] at h <;> repeat' (first | (cases h; done) | (cases h; decide) | split at h)
theorem prun_words {at_ : Nat} : ∀ (r : List (List UInt8)) (s : PSt) (i : Nat) {x : StmD} {j : Nat}, invW s → prun at_ s i r = .inl (x, j) → wordsS x = doneW s ++ r.take (j - i)
  | [], s, i, x, j, _, h => by rw [prun] at h; cases h
  | w :: r, s, i, x, j, hi, h => by
    rw [prun] at h
    split at h
    · rename_i t ht
      obtain ⟨h1, h2⟩ := step_more hi ht
      have h3 := prun_words r _ _ h1 h
      have h4 := prun_le r _ _ h
      rw [h3, h2, show j - i = (j - (i + 1)) + 1 by omega, List.take_succ_cons, List.append_assoc]
      rfl
    · rename_i y hy
      cases h
      rw [step_done hi hy, show i + 1 - i = 1 by omega]
      rfl
    · cases h
theorem prun_err {at_ : Nat} : ∀ (r : List (List UInt8)) (s : PSt) (i : Nat) {e : Nat × Int}, prun at_ s i r = .inr e → e.2 ≠ 0
  | [], s, i, e, h => by rw [prun] at h; cases h; exact (by decide : (16 : Int) ≠ 0)
  | w :: r, s, i, e, h => by
    rw [prun] at h
    split at h
    · exact prun_err r _ _ h
    · cases h
    · rename_i b z hz
      cases h
      exact step_bad hz
theorem readW_words {ws : List (List UInt8)} {i j : Nat} {x : StmD} (h : readW ws i = .inl (x, j)) : wordsS x = (ws.drop i).take (j - i) :=
  prun_words _ .begin _ trivial h
theorem parseF_words {ws : List (List UInt8)} : ∀ (f i : Nat) (out : List StmD) {l : List StmD} {k : Nat}, ws.length < f + i → i ≤ ws.length → out.flatMap wordsS = ws.take i → parseF ws f i out = (l, k, 0) → l.flatMap wordsS = ws
  | 0, i, out, l, k, hf, hi, _, _ => by omega
  | f + 1, i, out, l, k, hf, hi, ho, h => by
    rw [parseF] at h
    split at h
    · rename_i hn
      cases h
      rw [ho, List.take_of_length_le hn]
    · split at h
      · cases h
      · split at h
        · rename_i e he
          exact absurd (congrArg (fun q => q.2.2) h) (prun_err _ _ _ he)
        · rename_i x j hx
          obtain ⟨h1, h2⟩ := readW_le hx hi
          refine parseF_words f j (out ++ [x]) (by omega) h2 ?_ h
          rw [List.flatMap_append, ho, List.flatMap_cons, List.flatMap_nil, List.append_nil, readW_words hx, ← List.take_append_drop i (ws.take j), List.take_take, List.drop_take]
          rw [show min i j = i by omega]
theorem parse_words {ws : List (List UInt8)} {l : List StmD} {k : Nat} (h : parseS ws = (l, k, 0)) : l.flatMap wordsS = ws := by
  unfold parseS at h
  split at h
  · cases h
  · exact parseF_words _ _ _ (by omega) (Nat.zero_le _) rfl h
end Go.Proofs.YtpmbfcogkoiogaaDoor
end
section
namespace Go.Proofs.YtpmbfcogkoiogaaDoor
def okH (x : StmD) : Prop := (1 ≤ x.kind ∧ x.kind ≤ 9) ∧ (if labS x.kind then decide (onlyS x.label [2]) else x.label == []) = true
def symsOk (l : List (List UInt8)) : Prop := (l.all fun w => decide (onlyS w [2, 3])) = true
def fineP : PSt → Prop
  | .begin => True
  | .key l => onlyS l [2]
  | .text s => okH s ∧ s.text.length ≤ mostS s.kind ∧ symsOk s.text ∧ s.proof = []
  | .proof s => okH s ∧ s.kind = 7 ∧ leastS s.kind ≤ s.text.length ∧ s.text.length ≤ mostS s.kind ∧ symsOk s.text ∧ s.proof.all prfS = true
theorem formed_of {x : StmD} (h : okH x) (h1 : leastS x.kind ≤ x.text.length) (h2 : x.text.length ≤ mostS x.kind) (h3 : symsOk x.text) (h4 : x.proof.all prfS = true) (h5 : x.kind = 7 ∨ x.proof = []) : formedS x = true := by
  unfold formedS
  obtain ⟨⟨a, b⟩, c⟩ := h
  unfold symsOk at h3
  simp only [Bool.and_eq_true]
  refine ⟨⟨⟨⟨⟨decide_eq_true ⟨a, b⟩, c⟩, decide_eq_true ⟨h1, h2⟩⟩, h3⟩, h4⟩, ?_⟩
  rcases h5 with h5 | h5 <;> simp [h5]
theorem kindS_pos {w : List UInt8} (h : kindS w ≠ 0) : (1 : Int) ≤ (kindS w : Int) ∧ (kindS w : Int) ≤ 9 := by
  have := kindS_le w
  omega
theorem syms_snoc {l : List (List UInt8)} {w : List UInt8} (h : symsOk l) (hw : onlyS w [2, 3]) : symsOk (l ++ [w]) := by
  unfold symsOk at *
  rw [List.all_append, h]
  simp [hw]
theorem fine_more {s t : PSt} {w : List UInt8} (hi : fineP s) (h : pstep s w = .inl t) : fineP t := by
  cases s with
  | begin =>
    simp only [pstep] at h
    split at h
    · rename_i hk
      split at h
      · cases h
      · rename_i hl
        split at h
        · cases h
        · cases h
          refine ⟨⟨kindS_pos hk, ?_⟩, Nat.zero_le _, rfl, rfl⟩
          dsimp only
          rw [if_neg hl]
          rfl
    · split at h
      · cases h
      · split at h
        · rename_i ho; cases h; exact ho
        · cases h
  | key l =>
    simp only [pstep] at h
    split at h
    · cases h
    · rename_i hk
      split at h
      · rename_i hl
        cases h
        refine ⟨⟨kindS_pos hk, ?_⟩, Nat.zero_le _, rfl, rfl⟩
        dsimp only
        rw [if_pos hl]
        exact decide_eq_true hi
      · cases h
  | text x =>
    obtain ⟨i1, i2, i3, i4⟩ := hi
    simp only [pstep] at h
    split at h
    · rename_i hw
      split at h
      · cases h
      · rename_i hlt
        split at h
        · rename_i he
          cases h
          have hk : x.kind = 7 := by
            rcases hw with hw | hw
            · rw [he] at hw; exact absurd hw (by decide)
            · exact hw.2
          exact ⟨i1, hk, by omega, i2, i3, by rw [i4]; rfl⟩
        · split at h <;> cases h
    · split at h
      · cases h
      · split at h
        · rename_i ho
          split at h
          · cases h
          · rename_i hne
            cases h
            exact ⟨i1, by show (x.text ++ [w]).length ≤ mostS x.kind; simp; omega, syms_snoc i3 ho, i4⟩
        · cases h
  | proof x =>
    obtain ⟨i1, i2, i3, i4, i5, i6⟩ := hi
    simp only [pstep] at h
    split at h
    · cases h
    · split at h
      · cases h
      · split at h
        · rename_i hp
          cases h
          exact ⟨i1, i2, i3, i4, i5, by show (x.proof ++ [w]).all prfS = true; rw [List.all_append, i6]; simp [hp]⟩
        · cases h
theorem fine_done {s : PSt} {x : StmD} {w : List UInt8} (hi : fineP s) (h : pstep s w = .inr (.inl x)) : formedS x = true := by
  cases s with
  | begin =>
    simp only [pstep] at h
    split at h
    · rename_i hk
      split at h
      · cases h
      · rename_i hl
        split at h
        · rename_i hm
          cases h
          have hz : leastS (kindS w : Int) = 0 := by
            unfold mostS at hm
            unfold leastS
            split at hm
            · omega
            · rename_i h3
              rw [if_neg h3]
              split at hm
              · rename_i h8; rw [if_pos h8]
              · omega
          refine formed_of ⟨kindS_pos hk, ?_⟩ (by dsimp only; omega) (Nat.zero_le _) rfl rfl (.inr rfl)
          dsimp only
          rw [if_neg hl]
          rfl
        · cases h
    · split at h
      · cases h
      · split at h <;> cases h
  | key l =>
    simp only [pstep] at h
    split at h
    · cases h
    · split at h <;> cases h
  | text y =>
    obtain ⟨i1, i2, i3, i4⟩ := hi
    simp only [pstep] at h
    split at h
    · split at h
      · cases h
      · rename_i hlt
        split at h
        · cases h
        · split at h
          · cases h
          · cases h
            exact formed_of i1 (by omega) i2 i3 (by rw [i4]; rfl) (.inr i4)
    · split at h
      · cases h
      · split at h
        · split at h <;> cases h
        · cases h
  | proof y =>
    obtain ⟨i1, i2, i3, i4, i5, i6⟩ := hi
    simp only [pstep] at h
    split at h
    · cases h
      exact formed_of i1 i3 i4 i5 i6 (.inl i2)
    · split at h
      · cases h
      · split at h <;> cases h
theorem prun_formed {at_ : Nat} : ∀ (r : List (List UInt8)) (s : PSt) (i : Nat) {x : StmD} {j : Nat}, fineP s → prun at_ s i r = .inl (x, j) → formedS x = true
  | [], s, i, x, j, _, h => by rw [prun] at h; cases h
  | w :: r, s, i, x, j, hi, h => by
    rw [prun] at h
    split at h
    · rename_i t ht
      exact prun_formed r _ _ (fine_more hi ht) h
    · rename_i y hy
      cases h
      exact fine_done hi hy
    · cases h
theorem parseF_formed {ws : List (List UInt8)} : ∀ (f i : Nat) (out : List StmD) {l : List StmD} {k : Nat}, (∀ x ∈ out, formedS x = true) → parseF ws f i out = (l, k, 0) → ∀ x ∈ l, formedS x = true
  | 0, i, out, l, k, _, h => by
    rw [parseF] at h
    cases h
    intro x hx
    cases hx
  | f + 1, i, out, l, k, ho, h => by
    rw [parseF] at h
    split at h
    · cases h; exact ho
    · split at h
      · cases h
      · split at h
        · rename_i e he
          exact absurd (congrArg (fun q => q.2.2) h) (prun_err _ _ _ he)
        · rename_i x j hx
          refine parseF_formed f j (out ++ [x]) (fun y hy => ?_) h
          rcases List.mem_append.1 hy with hy | hy
          · exact ho y hy
          · simp at hy
            subst hy
            exact prun_formed (at_ := i) _ PSt.begin _ trivial hx
theorem parse_formed {ws : List (List UInt8)} {l : List StmD} {k : Nat} (h : parseS ws = (l, k, 0)) : ∀ x ∈ l, formedS x = true := by
  unfold parseS at h
  split at h
  · cases h
  · exact parseF_formed _ _ _ (fun x hx => by cases hx) h
/-- sizes of what was read -/
theorem formed_parts {x : StmD} (h : formedS x = true) : (1 ≤ x.kind ∧ x.kind ≤ 9) ∧ x.text.length ≤ mostS x.kind ∧ (x.kind = 7 ∨ x.proof = []) := by
  unfold formedS at h
  simp only [Bool.and_eq_true, Bool.or_eq_true] at h
  obtain ⟨⟨⟨⟨⟨h1, _⟩, h2⟩, _⟩, _⟩, h3⟩ := h
  exact ⟨of_decide_eq_true h1, (of_decide_eq_true h2).2, h3.imp (fun h => by simpa using h) (fun h => by simpa using h)⟩
theorem words_sizes {x : StmD} (h : x.kind = 7 ∨ x.proof = []) : x.text.length ≤ (wordsS x).length ∧ x.proof.length ≤ (wordsS x).length := by
  unfold wordsS
  simp only [List.length_append]
  refine ⟨by omega, ?_⟩
  rcases h with h | h
  · rw [if_pos h]; simp only [List.length_cons]; omega
  · rw [h]; exact Nat.zero_le _
theorem words_mem {l : List StmD} {x : StmD} (h : x ∈ l) : (wordsS x).length ≤ (l.flatMap wordsS).length := by
  induction l with
  | nil => cases h
  | cons y r ih =>
    rw [List.flatMap_cons, List.length_append]
    rcases List.mem_cons.1 h with rfl | h
    · omega
    · have := ih h; omega
/-- what the walks ask of the statements that were read -/
theorem parse_fine {ws : List (List UInt8)} {l : List StmD} {k : Nat} (h : parseS ws = (l, k, 0)) : ∀ x ∈ l, (1 ≤ x.kind ∧ x.kind ≤ 9) ∧ x.text.length ≤ ws.length ∧ x.proof.length ≤ ws.length ∧ (mostS x.kind = 0 → x.text = []) := fun x hx => by
  obtain ⟨h1, h2, h3⟩ := formed_parts (parse_formed h x hx)
  obtain ⟨h4, h5⟩ := words_sizes h3
  have h6 := words_mem hx
  rw [parse_words h] at h6
  exact ⟨h1, by omega, by omega, fun h0 => List.eq_nil_of_length_eq_zero (by omega)⟩
end Go.Proofs.YtpmbfcogkoiogaaDoor
end
section
namespace Go.Proofs.YtpmbfcogkoiogaaDoor
theorem sstep_sub {text : List UInt8} {t : TokD} {x z : StD} (h : sstep text x t = .inl z) : z.1 = x.1 ∨ z.1 = x.1 ++ [t] := by
  obtain ⟨a, c, o⟩ := x
  unfold sstep at h
  split at h
  · cases h
  · split at h
    · cases o <;> simp at h; subst h; exact .inl rfl
    · split at h
      · cases o <;> simp at h; subst h; exact .inl rfl
      · cases o <;> simp at h <;> subst h
        · exact .inr rfl
        · exact .inl rfl
theorem srun_sub {text : List UInt8} : ∀ (l : List TokD) (x y : StD), srun text x l = .inl y → ∃ r, y.1 = x.1 ++ r ∧ r.Sublist l
  | [], x, y, h => by
    simp [srun] at h
    subst h
    exact ⟨[], by simp, List.Sublist.refl _⟩
  | t :: l, x, y, h => by
    unfold srun at h
    split at h
    · cases h
    · rename_i z hz
      obtain ⟨r, h1, h2⟩ := srun_sub l z y h
      rcases sstep_sub hz with h3 | h3
      · exact ⟨r, by rw [h1, h3], h2.cons _⟩
      · exact ⟨t :: r, by rw [h1, h3, List.append_assoc]; rfl, h2.cons_cons _⟩
theorem strip_sub (text : List UInt8) : (stripS text).1.Sublist (scanS text).1 := by
  by_cases hz : (scanS text).2.2 = 0
  · cases hr : srun text ([], [], none) (scanS text).1 with
    | inr e => rw [stripS_bad hz hr]; exact List.nil_sublist _
    | inl y =>
      obtain ⟨w, c, o⟩ := y
      obtain ⟨r, h1, h2⟩ := srun_sub _ _ _ hr
      cases o with
      | some o => rw [stripS_open hz hr]; exact List.nil_sublist _
      | none =>
        rw [stripS_ok hz hr]
        have h3 : w = r := h1
        rw [h3]
        exact h2
  · rw [stripS_scan hz]; exact List.nil_sublist _
theorem strip_gaps (text : List UInt8) : (stripS text).1.Pairwise (fun a b => a.2 + a.1.length ≤ b.2) ∧ (∀ t ∈ (stripS text).1, t.2 + t.1.length ≤ text.length) ∧ (stripS text).1.length ≤ 8000 := by
  obtain ⟨h1, h2, h3⟩ := scanS_where text
  have hs := strip_sub text
  exact ⟨h2.sublist hs, fun t ht => (h1 t (hs.subset ht)).1, Nat.le_trans hs.length_le h3⟩
/-- what stands ahead of each token, and behind the last -/
def gapsF (text : List UInt8) : Nat → List TokD → List (List UInt8)
  | i, [] => [text.drop i]
  | i, t :: r => (text.take t.2).drop i :: gapsF text (t.2 + t.1.length) r
theorem gapsF_length (text : List UInt8) : ∀ (i : Nat) (l : List TokD), (gapsF text i l).length = l.length + 1
  | _, [] => rfl
  | _, t :: r => by rw [gapsF, List.length_cons, gapsF_length text _ r, List.length_cons]
/-- a document: each statement with the gaps ahead of its words; the tail -/
def partsF : List StmD → List (List UInt8) → List (StmD × List (List UInt8))
  | [], _ => []
  | x :: r, g => (x, g.take (wordsS x).length) :: partsF r (g.drop (wordsS x).length)
/-- Read: parts, tail, offset, error -/
def docS (text : List UInt8) : List (StmD × List (List UInt8)) × List UInt8 × Nat × Int :=
  if (stripS text).2.2.2 ≠ 0 then ([], [], (stripS text).2.2.1, (stripS text).2.2.2)
  else
    let p := parseS ((stripS text).1.map (·.1))
    if p.2.2 ≠ 0 then ([], [], match (stripS text).1[p.2.1]? with | some t => t.2 | none => text.length, p.2.2)
    else (partsF p.1 (gapsF text 0 (stripS text).1), (gapsF text 0 (stripS text).1).getLastD [], 0, 0)
theorem words_pos (x : StmD) : 0 < (wordsS x).length := by
  unfold wordsS
  simp only [List.length_append, List.length_cons, List.length_nil]
  omega
end Go.Proofs.YtpmbfcogkoiogaaDoor
end
section
namespace Go.Proofs.YtpmbfcogkoiogaaDoor
theorem partsF_zip (r : List (List UInt8)) : ∀ (l : List StmD) (gs : List (List (List UInt8))), gs.length = l.length → (∀ (i : Nat) x g, l[i]? = some x → gs[i]? = some g → g.length = (wordsS x).length) → partsF l (gs.flatten ++ r) = l.zip gs
  | [], [], _, _ => rfl
  | [], _ :: _, h, _ => by simp at h
  | _ :: _, [], h, _ => by simp at h
  | x :: l, g :: gs, h, hk => by
    have h0 := hk 0 x g rfl rfl
    rw [partsF, List.flatten_cons, List.append_assoc, ← h0, List.take_left, List.drop_left, List.zip_cons_cons, partsF_zip r l gs (by simpa using h) (fun i y k hy hg => hk (i + 1) y k hy hg)]
/-- the numbers of the words of the statements -/
def numW (l : List StmD) : Nat := (l.flatMap wordsS).length
theorem numW_cons (x : StmD) (l : List StmD) : numW (x :: l) = (wordsS x).length + numW l := by simp [numW]
theorem gs_le : ∀ (l : List StmD) (gs : List (List (List UInt8))), gs.length = l.length → (∀ (i : Nat) x g, l[i]? = some x → gs[i]? = some g → g.length ≤ (wordsS x).length) → gs.flatten.length ≤ numW l
  | [], [], _, _ => Nat.zero_le _
  | [], _ :: _, h, _ => by simp at h
  | _ :: _, [], h, _ => by simp at h
  | x :: l, g :: gs, h, hk => by
    have h0 := hk 0 x g rfl rfl
    have h1 := gs_le l gs (by simpa using h) (fun i y k hy hg => hk (i + 1) y k hy hg)
    rw [List.flatten_cons, List.length_append, numW_cons]
    omega
theorem gs_eq : ∀ (l : List StmD) (gs : List (List (List UInt8))), gs.length = l.length → (∀ (i : Nat) x g, l[i]? = some x → gs[i]? = some g → g.length = (wordsS x).length) → gs.flatten.length = numW l
  | [], [], _, _ => rfl
  | [], _ :: _, h, _ => by simp at h
  | _ :: _, [], h, _ => by simp at h
  | x :: l, g :: gs, h, hk => by
    have h0 := hk 0 x g rfl rfl
    have h1 := gs_eq l gs (by simpa using h) (fun i y k hy hg => hk (i + 1) y k hy hg)
    rw [List.flatten_cons, List.length_append, numW_cons]
    omega
/-- within the dealing: p is the statement that is dealt to, gs the gaps of all -/
structure Dealt (l : List StmD) (p : Nat) (gs : List (List (List UInt8))) (pre : List (List UInt8)) : Prop where
  len : gs.length = l.length
  le : p ≤ l.length
  full : ∀ (i : Nat) x g, i < p → l[i]? = some x → gs[i]? = some g → g.length = (wordsS x).length
  here : ∀ x g, l[p]? = some x → gs[p]? = some g → g.length ≤ (wordsS x).length
  none : ∀ (i : Nat) g, p < i → gs[i]? = some g → g = []
  all : gs.flatten = pre
theorem Dealt.start (l : List StmD) : Dealt l 0 (List.replicate l.length []) [] := by
  have h : ∀ (i : Nat) (g : List (List UInt8)), (List.replicate l.length ([] : List (List UInt8)))[i]? = some g → g = [] := fun i g hg => by
    rw [List.getElem?_replicate] at hg
    split at hg
    · cases hg; rfl
    · cases hg
  refine ⟨by simp, Nat.zero_le _, fun i x g h => by omega, fun x g hx hg => ?_, fun i g _ hg => h i g hg, by simp⟩
  rw [h _ _ hg]
  exact Nat.zero_le _
theorem Dealt.num {l : List StmD} {p : Nat} {gs : List (List (List UInt8))} {pre : List (List UInt8)} (h : Dealt l p gs pre) : pre.length ≤ numW l := by
  rw [← h.all]
  refine gs_le l gs h.len fun i x g hx hg => ?_
  rcases Nat.lt_trichotomy i p with hi | hi | hi
  · exact Nat.le_of_eq (h.full i x g hi hx hg)
  · subst hi; exact h.here x g hx hg
  · rw [h.none i g hi hg]; exact Nat.zero_le _
/-- the statement has all its gaps: on to the next -/
theorem Dealt.next {l : List StmD} {p : Nat} {gs : List (List (List UInt8))} {pre : List (List UInt8)} {x : StmD} {g : List (List UInt8)} (h : Dealt l p gs pre) (hx : l[p]? = some x) (hg : gs[p]? = some g) (hn : g.length = (wordsS x).length) : Dealt l (p + 1) gs pre := by
  refine ⟨h.len, ?_, fun i y k hi hy hk => ?_, fun y k _ hk => ?_, fun i k hi hk => h.none i k (by omega) hk, h.all⟩
  · have := (List.getElem?_eq_some_iff.1 hx).1; omega
  · by_cases e : i = p
    · subst e
      rw [hx] at hy; rw [hg] at hk
      cases hy; cases hk
      exact hn
    · exact h.full i y k (by omega) hy hk
  · rw [h.none (p + 1) k (by omega) hk]; exact Nat.zero_le _
theorem flatten_set : ∀ (gs : List (List (List UInt8))) (p : Nat) (g : List (List UInt8)) (u : List UInt8), gs[p]? = some g → (∀ (i : Nat) k, p < i → gs[i]? = some k → k = []) → (gs.set p (g ++ [u])).flatten = gs.flatten ++ [u]
  | [], p, g, u, h, _ => by simp at h
  | k :: gs, 0, g, u, h, hn => by
    have e : k = g := by simpa using h
    subst e
    have h2 : gs.flatten = [] := by
      rw [List.flatten_eq_nil_iff]
      intro x hx
      obtain ⟨i, hi⟩ := List.getElem?_of_mem hx
      exact hn (i + 1) x (by omega) (by simpa using hi)
    simp [h2]
  | k :: gs, p + 1, g, u, h, hn => by
    have h2 := flatten_set gs p g u (by simpa using h) (fun i x hi hx => hn (i + 1) x (by omega) (by simpa using hx))
    simp [h2]
/-- one gap more -/
theorem Dealt.put {l : List StmD} {p : Nat} {gs : List (List (List UInt8))} {pre : List (List UInt8)} {x : StmD} {g : List (List UInt8)} {u : List UInt8} (h : Dealt l p gs pre) (hx : l[p]? = some x) (hg : gs[p]? = some g) (hn : g.length < (wordsS x).length) : Dealt l p (gs.set p (g ++ [u])) (pre ++ [u]) := by
  have hp := (List.getElem?_eq_some_iff.1 hg).1
  refine ⟨by rw [List.length_set]; exact h.len, h.le, fun i y k hi hy hk => ?_, fun y k hy hk => ?_, fun i k hi hk => ?_, by rw [← h.all]; exact flatten_set gs p g u hg h.none⟩
  · rw [List.getElem?_set_ne (by omega)] at hk
    exact h.full i y k hi hy hk
  · rw [List.getElem?_set_self hp] at hk
    cases hk
    rw [hx] at hy
    cases hy
    simp; omega
  · rw [List.getElem?_set_ne (by omega)] at hk
    exact h.none i k hi hk
/-- all is dealt, one gap is left -/
theorem Dealt.done {l : List StmD} {gs : List (List (List UInt8))} {pre items : List (List UInt8)} {u : List UInt8} (h : Dealt l l.length gs pre) (hp : pre ++ [u] <+: items) (hi : items.length = numW l + 1) : partsF l items = l.zip gs ∧ items.getLastD [] = u := by
  have hfull : ∀ (i : Nat) x g, l[i]? = some x → gs[i]? = some g → g.length = (wordsS x).length := fun i x g hx hg => h.full i x g (List.getElem?_eq_some_iff.1 hx).1 hx hg
  have h1 := gs_eq l gs h.len hfull
  rw [h.all] at h1
  have h2 : items = pre ++ [u] := (hp.eq_of_length (by simp [hi, h1])).symm
  subst h2
  rw [← h.all]
  exact ⟨partsF_zip [u] l gs h.len hfull, by simp⟩
/-- not all gaps are dealt when the last statement is not full -/
theorem Dealt.more {l : List StmD} {p : Nat} {gs : List (List (List UInt8))} {pre items : List (List UInt8)} (h : Dealt l p gs pre) (hi : items.length = numW l + 1) : pre ≠ items := by
  intro e
  have := h.num
  rw [e, hi] at this
  omega
end Go.Proofs.YtpmbfcogkoiogaaDoor
end
