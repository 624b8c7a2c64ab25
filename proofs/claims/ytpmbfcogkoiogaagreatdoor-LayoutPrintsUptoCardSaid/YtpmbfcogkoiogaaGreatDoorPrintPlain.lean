/- Layout: the text that Print makes, in plain terms. -/
import Derived.Test.YtpmbfcogkoiogaaGreatDoorWriteRA
namespace Go.Proofs.YtpmbfcogkoiogaaGreatDoor
/-- a word fits into the line -/
def bfit (W : Int) (n : Nat) (u : List UInt8) : Bool := decide (((n + 1 + u.length : Nat) : Int) ≤ W)
/-- the gap ahead of a word of a block, and the length of the line behind it -/
def bgap (ind : List UInt8) (W : Int) (n : Nat) (u : List UInt8) : List UInt8 := if bfit W n u then [32] else 10 :: (ind ++ [32, 32, 32, 32])
def blen (ind : List UInt8) (W : Int) (n : Nat) (u : List UInt8) : Nat := if bfit W n u then n + 1 + u.length else ind.length + 4 + u.length
def bstep (ind : List UInt8) (W : Int) (st : List UInt8 × Nat) (u : List UInt8) : List UInt8 × Nat := (st.1 ++ (bgap ind W st.2 u ++ u), blen ind W st.2 u)
def bfold (ind : List UInt8) (W : Int) (u : List UInt8) (r : List (List UInt8)) : List UInt8 × Nat := r.foldl (bstep ind W) (ind ++ u, ind.length + u.length)
/-- a block of words -/
def blockS (ind : List UInt8) (W : Int) : List (List UInt8) → List UInt8
  | [] => []
  | u :: r => (bfold ind W u r).1 ++ [10]
/-- the scopes that are open: at a statement, and behind it -/
def atD (D k : Int) : Int := if k = 9 then D - 1 else D
def nextD (D k : Int) : Int := if k = 9 then D - 1 else if k = 8 then D + 1 else D
def indS (D : Int) : List UInt8 := List.replicate (min (2 * max D 0) 20).toNat 32
def prnS (W : Int) : Int → List StmD → List UInt8
  | _, [] => []
  | D, x :: r => blockS (indS (atD D x.kind)) W (wordsS x) ++ prnS W (nextD D x.kind) r
def printS (l : List StmD) (W : Int) : List UInt8 × Int :=
  if (allW l).2 ≠ 0 then ([], (allW l).2) else if 40000 < (prnS W 0 l).length then ([], 15) else (prnS W 0 l, 0)
/-- the gaps of a block behind its first word -/
def bgaps (ind : List UInt8) (W : Int) : Nat → List (List UInt8) → List (List UInt8)
  | _, [] => []
  | n, u :: r => bgap ind W n u :: bgaps ind W (blen ind W n u) r
def sgaps (pre ind : List UInt8) (W : Int) : List (List UInt8) → List (List UInt8)
  | [] => []
  | u :: r => (pre ++ ind) :: bgaps ind W (ind.length + u.length) r
/-- what is printed, as a document -/
def prnD (W : Int) : Bool → Int → List StmD → List PartD
  | _, _, [] => []
  | first, D, x :: r => (x, sgaps (if first then [] else [10]) (indS (atD D x.kind)) W (wordsS x)) :: prnD W false (nextD D x.kind) r
section
variable {ind : List UInt8} {W : Int}
theorem bgaps_len : ∀ (r : List (List UInt8)) (n : Nat), (bgaps ind W n r).length = r.length
  | [], _ => rfl
  | u :: r, n => by rw [bgaps, List.length_cons, bgaps_len r, List.length_cons]
theorem sgaps_len (pre : List UInt8) (ws : List (List UInt8)) : (sgaps pre ind W ws).length = ws.length := by
  cases ws with
  | nil => rfl
  | cons u r => rw [sgaps, List.length_cons, bgaps_len, List.length_cons]
theorem foldl_gaps : ∀ (r : List (List UInt8)) (st : List UInt8 × Nat), (r.foldl (bstep ind W) st).1 = st.1 ++ ((bgaps ind W st.2 r).zip r).flatMap (fun p => p.1 ++ p.2)
  | [], st => by simp [bgaps]
  | u :: r, st => by
    rw [List.foldl_cons, foldl_gaps r]
    simp [bstep, bgaps]
theorem sgaps_out (pre : List UInt8) (ws : List (List UInt8)) (h : ws ≠ []) : ((sgaps pre ind W ws).zip ws).flatMap (fun p => p.1 ++ p.2) ++ [10] = pre ++ blockS ind W ws := by
  cases ws with
  | nil => exact absurd rfl h
  | cons u r =>
    rw [blockS, bfold, foldl_gaps]
    simp [sgaps]
end
theorem words_ne (x : StmD) : wordsS x ≠ [] := fun h => by have := words_pos x; rw [h] at this; simp at this
theorem prn_out (W : Int) : ∀ (l : List StmD) (first : Bool) (D : Int), outS (prnD W first D l) ++ (if first && l.isEmpty then [] else [10]) = (if first then [] else [10]) ++ prnS W D l
  | [], first, D => by cases first <;> simp [prnD, prnS, outS]
  | x :: r, first, D => by
    have ih := prn_out W r false (nextD D x.kind)
    have h1 := sgaps_out (ind := indS (atD D x.kind)) (W := W) (if first then [] else [10]) (wordsS x) (words_ne x)
    simp only [Bool.false_and, Bool.false_eq_true, if_false] at ih
    have h2 : outS (prnD W first D (x :: r)) = outP (x, sgaps (if first then [] else [10]) (indS (atD D x.kind)) W (wordsS x)) ++ outS (prnD W false (nextD D x.kind) r) := by
      rw [prnD]; rfl
    rw [h2, List.append_assoc]
    have h3 : (if first && (x :: r).isEmpty then ([] : List UInt8) else [10]) = [10] := by simp
    rw [h3, ih, prnS, ← List.append_assoc, ← List.append_assoc]
    congr 1
theorem prn_fst (W : Int) : ∀ (l : List StmD) (first : Bool) (D : Int), (prnD W first D l).map (·.1) = l
  | [], _, _ => rfl
  | x :: r, first, D => by rw [prnD, List.map_cons, prn_fst W r]
theorem prn_lens (W : Int) : ∀ (l : List StmD) (first : Bool) (D : Int), lensS (prnD W first D l) = true
  | [], _, _ => rfl
  | x :: r, first, D => by
    rw [prnD]
    unfold lensS
    rw [List.all_cons]
    have := prn_lens W r false (nextD D x.kind)
    unfold lensS at this
    rw [this, sgaps_len]
    simp
/-- white space alone -/
def whiteS (g : List UInt8) : Prop := ∀ b ∈ g, sp b = true
theorem toks_white : ∀ (g s : List UInt8) (k : Nat), whiteS g → toks k (g ++ s) = toks (k + g.length) s
  | [], s, k, _ => rfl
  | b :: g, s, k, h => by
    rw [List.cons_append, toks_sp (h b (by simp)), toks_white g s (k + 1) (fun c hc => h c (by simp [hc]))]
    congr 1
    simp
    omega
theorem white_blank {g : List UInt8} (h : whiteS g) : blankP g = true := by
  unfold blankP
  have h1 := toks_white g [] 0 h
  rw [List.append_nil] at h1
  rw [h1, toks_nil, Bool.and_eq_true]
  refine ⟨List.all_eq_true.2 fun b hb => ?_, rfl⟩
  have := h b hb
  unfold sp at this
  unfold byteB
  rw [beq_iff_eq] at this
  rw [this]
  rfl
theorem white_head {g : List UInt8} (h : whiteS g) (hn : g ≠ []) : headW? g = true := by
  cases g with
  | nil => exact absurd rfl hn
  | cons b g => exact h b (by simp)
theorem white_last {g : List UInt8} (h : whiteS g) (hn : g ≠ []) : lastW? g = true := by
  unfold lastW?
  rw [List.getLast?_eq_some_getLast hn]
  exact h _ (List.getLast_mem hn)
theorem white_gap {g : List UInt8} (h : whiteS g) (first : Bool) (hn : first = true ∨ g ≠ []) : gapOk first g = true := by
  unfold gapOk
  split
  · rfl
  · rename_i h1
    have hg : g ≠ [] := by
      rcases hn with hn | hn
      · rw [hn] at h1
        simpa using h1
      · exact hn
    rw [white_blank h, white_head h hg, white_last h hg]
    simp
theorem white_rep (n : Nat) : whiteS (List.replicate n 32) := fun b hb => by rw [List.eq_of_mem_replicate hb]; decide
theorem white_ind (D : Int) : whiteS (indS D) := white_rep _
theorem white_app {a b : List UInt8} (ha : whiteS a) (hb : whiteS b) : whiteS (a ++ b) := fun c hc => (List.mem_append.1 hc).elim (ha c) (hb c)
theorem white_bgap {ind : List UInt8} (h : whiteS ind) (W : Int) (n : Nat) (u : List UInt8) : whiteS (bgap ind W n u) ∧ bgap ind W n u ≠ [] := by
  unfold bgap
  split
  · exact ⟨fun b hb => by simp at hb; subst hb; decide, by simp⟩
  · refine ⟨?_, by simp⟩
    exact white_app (a := [10]) (fun b hb => by simp at hb; subst hb; decide) (white_app h (white_rep 4))
theorem white_bgaps {ind : List UInt8} (h : whiteS ind) (W : Int) : ∀ (r : List (List UInt8)) (n : Nat), ∀ g ∈ bgaps ind W n r, whiteS g ∧ g ≠ []
  | [], _, g, hg => by cases hg
  | u :: r, n, g, hg => by
    rw [bgaps] at hg
    rcases List.mem_cons.1 hg with rfl | hg
    · exact white_bgap h W n u
    · exact white_bgaps h W r _ g hg
theorem white_ten {b : List UInt8} (h : whiteS b) : whiteS ([10] ++ b) := white_app (fun c hc => by simp at hc; subst hc; decide) h
theorem prn_rightG {ind : List UInt8} (h : whiteS ind) (W : Int) (first : Bool) (ws : List (List UInt8)) : rightG first (sgaps (if first then [] else [10]) ind W ws) = true := by
  cases ws with
  | nil => rfl
  | cons u r =>
    rw [sgaps, rightG, Bool.and_eq_true]
    refine ⟨?_, List.all_eq_true.2 fun g hg => ?_⟩
    · cases first with
      | true => exact white_gap (by simpa using h) true (.inl rfl)
      | false => exact white_gap (white_ten h) false (.inr (by simp))
    · have := white_bgaps h W r _ g hg
      exact white_gap this.1 false (.inr this.2)
theorem prn_rightP (W : Int) : ∀ (l : List StmD) (first : Bool) (D : Int), rightP first (prnD W first D l) = true
  | [], _, _ => rfl
  | x :: r, first, D => by
    rw [prnD, rightP, prn_rightG (white_ind _) W first, prn_rightP W r false]
    rfl
theorem prn_right (W : Int) (l : List StmD) : docRight (prnD W true 0 l) (if l.isEmpty then [] else [10]) = true := by
  unfold docRight
  rw [prn_rightP]
  cases l with
  | nil => rfl
  | cons x r =>
    rw [show (x :: r).isEmpty = false from rfl]
    simp only [Bool.false_eq_true, if_false]
    rw [white_blank (g := [10]) (fun b hb => by simp at hb; subst hb; decide)]
    simp [headW?, show sp 10 = true by decide]
/-- the tokens of words between white gaps -/
theorem toks_gaps {tl : List UInt8} (ht : whiteS tl) : ∀ (gs ws : List (List UInt8)) (k : Nat), gs.length = ws.length → (∀ w ∈ ws, WordOk w) → (∀ g ∈ gs, whiteS g) → (∀ g ∈ gs.tail, g ≠ []) → (toks k ((gs.zip ws).flatMap (fun p => p.1 ++ p.2) ++ tl)).map (·.1) = ws
  | [], [], k, _, _, _, _ => by
    have := toks_white tl [] k ht
    rw [List.append_nil] at this
    simp [this, toks_nil]
  | [], _ :: _, _, h, _, _, _ => by simp at h
  | _ :: _, [], _, h, _, _, _ => by simp at h
  | g :: gs, w :: ws, k, h, hw, hg, hn => by
    have ih := fun k => toks_gaps ht gs ws k (by simpa using h) (fun u hu => hw u (by simp [hu])) (fun c hc => hg c (by simp [hc])) (fun c hc => hn c (by
      cases gs with
      | nil => cases hc
      | cons a r => simpa using List.mem_cons_of_mem a hc))
    rw [List.zip_cons_cons, List.flatMap_cons, List.append_assoc, List.append_assoc, toks_white g _ k (hg g (by simp))]
    rw [toks_word (hw w (by simp)), List.map_cons, ih]
    cases gs with
    | nil =>
      cases ws with
      | nil =>
        rw [List.zip_nil_left, List.flatMap_nil, List.nil_append]
        by_cases h0 : tl = []
        · exact .inl h0
        · exact .inr (white_head ht h0)
      | cons a r => simp at h
    | cons a r =>
      cases ws with
      | nil => simp at h
      | cons u s =>
        right
        have h1 := white_head (hg a (by simp)) (hn a (by simp))
        cases a with
        | nil => exact absurd rfl (hn [] (by simp))
        | cons b a => simpa [headW?] using h1
theorem flatMap_zip_flat : ∀ (d : List PartD), lensS d = true → outS d = (((d.map (·.2)).flatten).zip ((d.map (·.1)).flatMap wordsS)).flatMap (fun p => p.1 ++ p.2)
  | [], _ => rfl
  | x :: d, h => by
    unfold lensS at h
    rw [List.all_cons, Bool.and_eq_true] at h
    have ih := flatMap_zip_flat d h.2
    rw [List.map_cons, List.flatten_cons, List.map_cons, List.flatMap_cons, List.zip_append (by simpa using h.1), List.flatMap_append, ← ih]
    rfl
theorem prn_gaps (W : Int) : ∀ (l : List StmD) (first : Bool) (D : Int), (∀ g ∈ ((prnD W first D l).map (·.2)).flatten, whiteS g) ∧ (∀ g ∈ ((prnD W first D l).map (·.2)).flatten.tail, g ≠ []) ∧ (first = false → ∀ g ∈ ((prnD W first D l).map (·.2)).flatten, g ≠ [])
  | [], first, D => ⟨fun g hg => (by cases hg), fun g hg => (by cases hg), fun _ g hg => (by cases hg)⟩
  | x :: r, first, D => by
    obtain ⟨i1, i2, i3⟩ := prn_gaps W r false (nextD D x.kind)
    have i4 := i3 rfl
    obtain ⟨u, us, hu⟩ := List.exists_cons_of_ne_nil (words_ne x)
    have h5 := white_bgaps (white_ind (atD D x.kind)) W us ((indS (atD D x.kind)).length + u.length)
    rw [prnD, List.map_cons, List.flatten_cons, hu]
    dsimp only [sgaps]
    refine ⟨fun g hg => ?_, fun g hg => ?_, fun hf g hg => ?_⟩
    · rcases List.mem_append.1 hg with hg | hg
      · rcases List.mem_cons.1 hg with rfl | hg
        · cases first with
          | true => simpa using white_ind _
          | false => exact white_ten (white_ind _)
        · exact (h5 g hg).1
      · exact i1 g hg
    · rw [List.cons_append, List.tail_cons] at hg
      rcases List.mem_append.1 hg with hg | hg
      · exact (h5 g hg).2
      · exact i4 g hg
    · rcases List.mem_append.1 hg with hg | hg
      · rcases List.mem_cons.1 hg with rfl | hg
        · rw [hf]; simp
        · exact (h5 g hg).2
      · exact i4 g hg
/-- what Print makes is what Write makes of a document -/
theorem print_write {l : List StmD} {W : Int} (h : (allW l).2 = 0) (hs : (prnS W 0 l).length ≤ 40000) : writeS (prnD W true 0 l) (if l.isEmpty then [] else [10]) = (prnS W 0 l, 0) := by
  have ho : outS (prnD W true 0 l) ++ (if l.isEmpty then [] else [10]) = prnS W 0 l := by
    have := prn_out W l true 0
    simpa using this
  unfold writeS
  rw [prn_fst, if_neg (by simpa using h), if_neg (by rw [prn_lens]; simp), if_neg (by rw [prn_right]; simp), ho, if_neg (by omega), if_neg ?_]
  rw [← ho, flatMap_zip_flat _ (prn_lens W l true 0)]
  obtain ⟨g1, g2, _⟩ := prn_gaps W l true 0
  have hall := allW_fine h
  have ht := toks_gaps (tl := if l.isEmpty then [] else [10]) (by split; · exact fun b hb => by cases hb
                                                                  · exact fun b hb => by simp at hb; subst hb; decide) ((prnD W true 0 l).map (·.2)).flatten (((prnD W true 0 l).map (·.1)).flatMap wordsS) 0 (lens_flat _ (prn_lens W l true 0)) (by
    rw [prn_fst]
    intro w hw
    obtain ⟨x, hx, hw⟩ := List.mem_flatMap.1 hw
    exact words_word (hall x hx) w hw) g1 g2
  have hl := congrArg List.length ht
  rw [List.length_map] at hl
  rw [hl, prn_fst]
  unfold allW at h
  split at h
  · cases h
  · split at h
    · split at h
      · cases h
      · omega
    · cases h
theorem print_doc {l : List StmD} {W : Int} (h : (printS l W).2 = 0) : docS (printS l W).1 = (prnD W true 0 l, if l.isEmpty then [] else [10], 0, 0) := by
  unfold printS at h ⊢
  by_cases h1 : (allW l).2 = 0
  · rw [if_neg (by simpa using h1)] at h ⊢
    by_cases h2 : 40000 < (prnS W 0 l).length
    · rw [if_pos h2] at h
      cases h
    · rw [if_neg h2]
      have h3 := print_write h1 (by omega : (prnS W 0 l).length ≤ 40000)
      have h4 := write_read (d := prnD W true 0 l) (tl := if l.isEmpty then [] else [10]) (by rw [h3])
      rw [h3] at h4
      exact h4
  · rw [if_pos (by simpa using h1)] at h
    exact absurd h h1
end Go.Proofs.YtpmbfcogkoiogaaGreatDoor
