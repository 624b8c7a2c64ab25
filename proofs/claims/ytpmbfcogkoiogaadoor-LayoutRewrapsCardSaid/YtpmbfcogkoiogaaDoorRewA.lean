/- Layout: the text that Print makes, in plain terms. Layout: the text that Rewrap makes, in plain terms. Layout: Rewrap of Rewrap, in plain terms. -/
import Derived.Test.YtpmbfcogkoiogaaDoorWriteRA
section
namespace Go.Proofs.YtpmbfcogkoiogaaDoor
/-- a word fits into the line -/
def bfit (W : Int) (n : Nat) (u : List UInt8) : Bool := decide (((n + 1 + u.length : Nat) : Int) ≤ W)
/-- the gap ahead of a word of a block, and the length of the line behind it -/
def bgap (ind : List UInt8) (W : Int) (n : Nat) (u : List UInt8) : List UInt8 := if bfit W n u then [32] else 10 :: (ind ++ [32, 32, 32, 32])
def blen (ind : List UInt8) (W : Int) (n : Nat) (u : List UInt8) : Nat := if bfit W n u then n + 1 + u.length else ind.length + 4 + u.length
def bstep (ind : List UInt8) (W : Int) (st : List UInt8 × Nat) (u : List UInt8) : List UInt8 × Nat := (st.1 ++ (bgap ind W st.2 u ++ u), blen ind W st.2 u)
def bfold (ind : List UInt8) (W : Int) (u : List UInt8) (r : List (List UInt8)) : List UInt8 × Nat := r.foldl (bstep ind W) (ind ++ u, ind.length + u.length)
/-- a block of words -/
def blockS (ind : List UInt8) (W : Int) : List (List UInt8) → List UInt8
  | [] => []
  | u :: r => (bfold ind W u r).1 ++ [10]
/-- the scopes that are open: at a statement, and behind it -/
def atD (D k : Int) : Int := if k = 9 then D - 1 else D
def nextD (D k : Int) : Int := if k = 9 then D - 1 else if k = 8 then D + 1 else D
def indS (D : Int) : List UInt8 := List.replicate (min (2 * max D 0) 20).toNat 32
def prnS (W : Int) : Int → List StmD → List UInt8
  | _, [] => []
  | D, x :: r => blockS (indS (atD D x.kind)) W (wordsS x) ++ prnS W (nextD D x.kind) r
def printS (l : List StmD) (W : Int) : List UInt8 × Int :=
  if (allW l).2 ≠ 0 then ([], (allW l).2) else if 40000 < (prnS W 0 l).length then ([], 15) else (prnS W 0 l, 0)
/-- the gaps of a block behind its first word -/
def bgaps (ind : List UInt8) (W : Int) : Nat → List (List UInt8) → List (List UInt8)
  | _, [] => []
  | n, u :: r => bgap ind W n u :: bgaps ind W (blen ind W n u) r
def sgaps (pre ind : List UInt8) (W : Int) : List (List UInt8) → List (List UInt8)
  | [] => []
  | u :: r => (pre ++ ind) :: bgaps ind W (ind.length + u.length) r
/-- what is printed, as a document -/
def prnD (W : Int) : Bool → Int → List StmD → List PartD
  | _, _, [] => []
  | first, D, x :: r => (x, sgaps (if first then [] else [10]) (indS (atD D x.kind)) W (wordsS x)) :: prnD W false (nextD D x.kind) r
section
variable {ind : List UInt8} {W : Int}
theorem bgaps_len : ∀ (r : List (List UInt8)) (n : Nat), (bgaps ind W n r).length = r.length
  | [], _ => rfl
  | u :: r, n => by rw [bgaps, List.length_cons, bgaps_len r, List.length_cons]
theorem sgaps_len (pre : List UInt8) (ws : List (List UInt8)) : (sgaps pre ind W ws).length = ws.length := by
  cases ws with
  | nil => rfl
  | cons u r => rw [sgaps, List.length_cons, bgaps_len, List.length_cons]
theorem foldl_gaps : ∀ (r : List (List UInt8)) (st : List UInt8 × Nat), (r.foldl (bstep ind W) st).1 = st.1 ++ ((bgaps ind W st.2 r).zip r).flatMap (fun p => p.1 ++ p.2)
  | [], st => by simp [bgaps]
  | u :: r, st => by
    rw [List.foldl_cons, foldl_gaps r]
    simp [bstep, bgaps]
theorem sgaps_out (pre : List UInt8) (ws : List (List UInt8)) (h : ws ≠ []) : ((sgaps pre ind W ws).zip ws).flatMap (fun p => p.1 ++ p.2) ++ [10] = pre ++ blockS ind W ws := by
  cases ws with
  | nil => exact absurd rfl h
  | cons u r =>
    rw [blockS, bfold, foldl_gaps]
    simp [sgaps]
end
theorem words_ne (x : StmD) : wordsS x ≠ [] := fun h => by have := words_pos x; rw [h] at this; simp at this
theorem prn_out (W : Int) : ∀ (l : List StmD) (first : Bool) (D : Int), outS (prnD W first D l) ++ (if first && l.isEmpty then [] else [10]) = (if first then [] else [10]) ++ prnS W D l
  | [], first, D => by cases first <;> simp [prnD, prnS, outS]
  | x :: r, first, D => by
    have ih := prn_out W r false (nextD D x.kind)
    have h1 := sgaps_out (ind := indS (atD D x.kind)) (W := W) (if first then [] else [10]) (wordsS x) (words_ne x)
    simp only [Bool.false_and, Bool.false_eq_true, if_false] at ih
    have h2 : outS (prnD W first D (x :: r)) = outP (x, sgaps (if first then [] else [10]) (indS (atD D x.kind)) W (wordsS x)) ++ outS (prnD W false (nextD D x.kind) r) := by
      rw [prnD]; rfl
    rw [h2, List.append_assoc]
    have h3 : (if first && (x :: r).isEmpty then ([] : List UInt8) else [10]) = [10] := by simp
    rw [h3, ih, prnS, ← List.append_assoc, ← List.append_assoc]
    congr 1
theorem prn_fst (W : Int) : ∀ (l : List StmD) (first : Bool) (D : Int), (prnD W first D l).map (·.1) = l
  | [], _, _ => rfl
  | x :: r, first, D => by rw [prnD, List.map_cons, prn_fst W r]
theorem prn_lens (W : Int) : ∀ (l : List StmD) (first : Bool) (D : Int), lensS (prnD W first D l) = true
  | [], _, _ => rfl
  | x :: r, first, D => by
    rw [prnD]
    unfold lensS
    rw [List.all_cons]
    have := prn_lens W r false (nextD D x.kind)
    unfold lensS at this
    rw [this, sgaps_len]
    simp
/-- white space alone -/
def whiteS (g : List UInt8) : Prop := ∀ b ∈ g, sp b = true
theorem toks_white : ∀ (g s : List UInt8) (k : Nat), whiteS g → toks k (g ++ s) = toks (k + g.length) s
  | [], s, k, _ => rfl
  | b :: g, s, k, h => by
    rw [List.cons_append, toks_sp (h b (by simp)), toks_white g s (k + 1) (fun c hc => h c (by simp [hc]))]
    congr 1
    simp
    omega
theorem white_blank {g : List UInt8} (h : whiteS g) : blankP g = true := by
  unfold blankP
  have h1 := toks_white g [] 0 h
  rw [List.append_nil] at h1
  rw [h1, toks_nil, Bool.and_eq_true]
  refine ⟨List.all_eq_true.2 fun b hb => ?_, rfl⟩
  have := h b hb
  unfold sp at this
  unfold byteB
  rw [beq_iff_eq] at this
  rw [this]
  rfl
theorem white_head {g : List UInt8} (h : whiteS g) (hn : g ≠ []) : headW? g = true := by
  cases g with
  | nil => exact absurd rfl hn
  | cons b g => exact h b (by simp)
theorem white_last {g : List UInt8} (h : whiteS g) (hn : g ≠ []) : lastW? g = true := by
  unfold lastW?
  rw [List.getLast?_eq_some_getLast hn]
  exact h _ (List.getLast_mem hn)
theorem white_gap {g : List UInt8} (h : whiteS g) (first : Bool) (hn : first = true ∨ g ≠ []) : gapOk first g = true := by
  unfold gapOk
  split
  · rfl
  · rename_i h1
    have hg : g ≠ [] := by
      rcases hn with hn | hn
      · rw [hn] at h1
        simpa using h1
      · exact hn
    rw [white_blank h, white_head h hg, white_last h hg]
    simp
theorem white_rep (n : Nat) : whiteS (List.replicate n 32) := fun b hb => by rw [List.eq_of_mem_replicate hb]; decide
theorem white_ind (D : Int) : whiteS (indS D) := white_rep _
theorem white_app {a b : List UInt8} (ha : whiteS a) (hb : whiteS b) : whiteS (a ++ b) := fun c hc => (List.mem_append.1 hc).elim (ha c) (hb c)
theorem white_bgap {ind : List UInt8} (h : whiteS ind) (W : Int) (n : Nat) (u : List UInt8) : whiteS (bgap ind W n u) ∧ bgap ind W n u ≠ [] := by
  unfold bgap
  split
  · exact ⟨fun b hb => by simp at hb; subst hb; decide, by simp⟩
  · refine ⟨?_, by simp⟩
    exact white_app (a := [10]) (fun b hb => by simp at hb; subst hb; decide) (white_app h (white_rep 4))
theorem white_bgaps {ind : List UInt8} (h : whiteS ind) (W : Int) : ∀ (r : List (List UInt8)) (n : Nat), ∀ g ∈ bgaps ind W n r, whiteS g ∧ g ≠ []
  | [], _, g, hg => by cases hg
  | u :: r, n, g, hg => by
    rw [bgaps] at hg
    rcases List.mem_cons.1 hg with rfl | hg
    · exact white_bgap h W n u
    · exact white_bgaps h W r _ g hg
theorem white_ten {b : List UInt8} (h : whiteS b) : whiteS ([10] ++ b) := white_app (fun c hc => by simp at hc; subst hc; decide) h
theorem prn_rightG {ind : List UInt8} (h : whiteS ind) (W : Int) (first : Bool) (ws : List (List UInt8)) : rightG first (sgaps (if first then [] else [10]) ind W ws) = true := by
  cases ws with
  | nil => rfl
  | cons u r =>
    rw [sgaps, rightG, Bool.and_eq_true]
    refine ⟨?_, List.all_eq_true.2 fun g hg => ?_⟩
    · cases first with
      | true => exact white_gap (by simpa using h) true (.inl rfl)
      | false => exact white_gap (white_ten h) false (.inr (by simp))
    · have := white_bgaps h W r _ g hg
      exact white_gap this.1 false (.inr this.2)
theorem prn_rightP (W : Int) : ∀ (l : List StmD) (first : Bool) (D : Int), rightP first (prnD W first D l) = true
  | [], _, _ => rfl
  | x :: r, first, D => by
    rw [prnD, rightP, prn_rightG (white_ind _) W first, prn_rightP W r false]
    rfl
theorem prn_right (W : Int) (l : List StmD) : docRight (prnD W true 0 l) (if l.isEmpty then [] else [10]) = true := by
  unfold docRight
  rw [prn_rightP]
  cases l with
  | nil => rfl
  | cons x r =>
    rw [show (x :: r).isEmpty = false from rfl]
    simp only [Bool.false_eq_true, if_false]
    rw [white_blank (g := [10]) (fun b hb => by simp at hb; subst hb; decide)]
    simp [headW?, show sp 10 = true by decide]
/-- the tokens of words between white gaps -/
theorem toks_gaps {tl : List UInt8} (ht : whiteS tl) : ∀ (gs ws : List (List UInt8)) (k : Nat), gs.length = ws.length → (∀ w ∈ ws, WordOk w) → (∀ g ∈ gs, whiteS g) → (∀ g ∈ gs.tail, g ≠ []) → (toks k ((gs.zip ws).flatMap (fun p => p.1 ++ p.2) ++ tl)).map (·.1) = ws
  | [], [], k, _, _, _, _ => by
    have := toks_white tl [] k ht
    rw [List.append_nil] at this
    simp [this, toks_nil]
  | [], _ :: _, _, h, _, _, _ => by simp at h
  | _ :: _, [], _, h, _, _, _ => by simp at h
  | g :: gs, w :: ws, k, h, hw, hg, hn => by
    have ih := fun k => toks_gaps ht gs ws k (by simpa using h) (fun u hu => hw u (by simp [hu])) (fun c hc => hg c (by simp [hc])) (fun c hc => hn c (by
      cases gs with
      | nil => cases hc
      | cons a r => simpa using List.mem_cons_of_mem a hc))
    rw [List.zip_cons_cons, List.flatMap_cons, List.append_assoc, List.append_assoc, toks_white g _ k (hg g (by simp))]
    rw [toks_word (hw w (by simp)), List.map_cons, ih]
    cases gs with
    | nil =>
      cases ws with
      | nil =>
        rw [List.zip_nil_left, List.flatMap_nil, List.nil_append]
        by_cases h0 : tl = []
        · exact .inl h0
        · exact .inr (white_head ht h0)
      | cons a r => simp at h
    | cons a r =>
      cases ws with
      | nil => simp at h
      | cons u s =>
        right
        have h1 := white_head (hg a (by simp)) (hn a (by simp))
        cases a with
        | nil => exact absurd rfl (hn [] (by simp))
        | cons b a => simpa [headW?] using h1
theorem flatMap_zip_flat : ∀ (d : List PartD), lensS d = true → outS d = (((d.map (·.2)).flatten).zip ((d.map (·.1)).flatMap wordsS)).flatMap (fun p => p.1 ++ p.2)
  | [], _ => rfl
  | x :: d, h => by
    unfold lensS at h
    rw [List.all_cons, Bool.and_eq_true] at h
    have ih := flatMap_zip_flat d h.2
    rw [List.map_cons, List.flatten_cons, List.map_cons, List.flatMap_cons, List.zip_append (by simpa using h.1), List.flatMap_append, ← ih]
    rfl
theorem prn_gaps (W : Int) : ∀ (l : List StmD) (first : Bool) (D : Int), (∀ g ∈ ((prnD W first D l).map (·.2)).flatten, whiteS g) ∧ (∀ g ∈ ((prnD W first D l).map (·.2)).flatten.tail, g ≠ []) ∧ (first = false → ∀ g ∈ ((prnD W first D l).map (·.2)).flatten, g ≠ [])
  | [], first, D => ⟨fun g hg => (by cases hg), fun g hg => (by cases hg), fun _ g hg => (by cases hg)⟩
  | x :: r, first, D => by
    obtain ⟨i1, i2, i3⟩ := prn_gaps W r false (nextD D x.kind)
    have i4 := i3 rfl
    obtain ⟨u, us, hu⟩ := List.exists_cons_of_ne_nil (words_ne x)
    have h5 := white_bgaps (white_ind (atD D x.kind)) W us ((indS (atD D x.kind)).length + u.length)
    rw [prnD, List.map_cons, List.flatten_cons, hu]
    dsimp only [sgaps]
    refine ⟨fun g hg => ?_, fun g hg => ?_, fun hf g hg => ?_⟩
    · rcases List.mem_append.1 hg with hg | hg
      · rcases List.mem_cons.1 hg with rfl | hg
        · cases first with
          | true => simpa using white_ind _
          | false => exact white_ten (white_ind _)
        · exact (h5 g hg).1
      · exact i1 g hg
    · rw [List.cons_append, List.tail_cons] at hg
      rcases List.mem_append.1 hg with hg | hg
      · exact (h5 g hg).2
      · exact i4 g hg
    · rcases List.mem_append.1 hg with hg | hg
      · rcases List.mem_cons.1 hg with rfl | hg
        · rw [hf]; simp
        · exact (h5 g hg).2
      · exact i4 g hg
/-- what Print makes is what Write makes of a document -/
theorem print_write {l : List StmD} {W : Int} (h : (allW l).2 = 0) (hs : (prnS W 0 l).length ≤ 40000) : writeS (prnD W true 0 l) (if l.isEmpty then [] else [10]) = (prnS W 0 l, 0) := by
  have ho : outS (prnD W true 0 l) ++ (if l.isEmpty then [] else [10]) = prnS W 0 l := by
    have := prn_out W l true 0
    simpa using this
  unfold writeS
  rw [prn_fst, if_neg (by simpa using h), if_neg (by rw [prn_lens]; simp), if_neg (by rw [prn_right]; simp), ho, if_neg (by omega), if_neg ?_]
  rw [← ho, flatMap_zip_flat _ (prn_lens W l true 0)]
  obtain ⟨g1, g2, _⟩ := prn_gaps W l true 0
  have hall := allW_fine h
  have ht := toks_gaps (tl := if l.isEmpty then [] else [10]) (by split; · exact fun b hb => by cases hb
                                                                  · exact fun b hb => by simp at hb; subst hb; decide) ((prnD W true 0 l).map (·.2)).flatten (((prnD W true 0 l).map (·.1)).flatMap wordsS) 0 (lens_flat _ (prn_lens W l true 0)) (by
    rw [prn_fst]
    intro w hw
    obtain ⟨x, hx, hw⟩ := List.mem_flatMap.1 hw
    exact words_word (hall x hx) w hw) g1 g2
  have hl := congrArg List.length ht
  rw [List.length_map] at hl
  rw [hl, prn_fst]
  unfold allW at h
  split at h
  · cases h
  · split at h
    · split at h
      · cases h
      · omega
    · cases h
theorem print_doc {l : List StmD} {W : Int} (h : (printS l W).2 = 0) : docS (printS l W).1 = (prnD W true 0 l, if l.isEmpty then [] else [10], 0, 0) := by
  unfold printS at h ⊢
  by_cases h1 : (allW l).2 = 0
  · rw [if_neg (by simpa using h1)] at h ⊢
    by_cases h2 : 40000 < (prnS W 0 l).length
    · rw [if_pos h2] at h
      cases h
    · rw [if_neg h2]
      have h3 := print_write h1 (by omega : (prnS W 0 l).length ≤ 40000)
      have h4 := write_read (d := prnD W true 0 l) (tl := if l.isEmpty then [] else [10]) (by rw [h3])
      rw [h3] at h4
      exact h4
  · rw [if_pos (by simpa using h1)] at h
    exact absurd h h1
end Go.Proofs.YtpmbfcogkoiogaaDoor
end
section
namespace Go.Proofs.YtpmbfcogkoiogaaDoor
/-- the words of a text -/
def tkS (g : List UInt8) : List (List UInt8) := (toks 0 g).map (·.1)
/-- the comments of the words of a blank -/
def comT : List (List UInt8) → List (List UInt8) → List (List (List UInt8))
  | _, [] => []
  | cur, t :: r => if t = [36, 41] then (cur ++ [t]) :: comT [] r else comT (cur ++ [t]) r
def comS (g : List UInt8) : List (List (List UInt8)) := comT [] (tkS g)
/-- the words of a statement behind its first one, with the comments ahead of each -/
def lineS : List (List UInt8) → List (List UInt8) → List (List UInt8)
  | g :: gs, w :: ws => (comS g).flatten ++ w :: lineS gs ws
  | _, _ => []
def partR (ind : List UInt8) (W : Int) : List (List UInt8) → List (List UInt8) → List UInt8
  | g :: gs, w :: ws => (comS g).flatMap (blockS ind W) ++ blockS ind W (w :: lineS gs ws)
  | _, _ => []
def rewS (W : Int) : Int → List PartD → List UInt8
  | _, [] => []
  | D, x :: r => partR (indS (atD D x.1.kind)) W x.2 (wordsS x.1) ++ rewS W (nextD D x.1.kind) r
/-- the scopes that are open behind parts -/
def depD (D : Int) (d : List PartD) : Int := d.foldl (fun D x => nextD D x.1.kind) D
def rewT (W : Int) (d : List PartD) (tl : List UInt8) : List UInt8 := rewS W 0 d ++ (comS tl).flatMap (blockS (indS (depD 0 d)) W)
def rewrapS (text : List UInt8) (W : Int) : List UInt8 × Nat × Int :=
  if (docS text).2.2.2 ≠ 0 then ([], (docS text).2.2.1, (docS text).2.2.2)
  else if 40000 < (rewT W (docS text).1 (docS text).2.1).length then ([], 0, 15)
  else (rewT W (docS text).1 (docS text).2.1, 0, 0)
/-- a token: not empty, no white space -/
def TokOk (w : List UInt8) : Prop := w ≠ [] ∧ ∀ b ∈ w, sp b = false
theorem WordOk.tok {w : List UInt8} (h : WordOk w) : TokOk w := ⟨h.ne, h.sp⟩
theorem toks_tok {w r : List UInt8} (hw : TokOk w) (hr : r = [] ∨ headW? r = true) (k : Nat) : toks k (w ++ r) = (w, k) :: toks (k + w.length) r := by
  obtain ⟨b, u, rfl⟩ := List.exists_cons_of_ne_nil hw.1
  have hu : ∀ c ∈ u, (!sp c) = true := fun c hc => by rw [hw.2 c (by simp [hc])]; rfl
  rw [List.cons_append, toks_cons (hw.2 b (by simp))]
  have hrt : r.takeWhile (fun c => !sp c) = [] ∧ r.dropWhile (fun c => !sp c) = r := by
    rcases hr with rfl | hr
    · exact ⟨rfl, rfl⟩
    · cases r with
      | nil => exact ⟨rfl, rfl⟩
      | cons c r =>
        have hc : sp c = true := hr
        exact ⟨by rw [List.takeWhile_cons_of_neg (by simp [hc])], by rw [List.dropWhile_cons_of_neg (by simp [hc])]⟩
  have e1 : (u ++ r).takeWhile (fun c => !sp c) = u := by rw [List.takeWhile_append_of_pos hu, hrt.1, List.append_nil]
  have e2 : (u ++ r).dropWhile (fun c => !sp c) = r := by rw [List.dropWhile_append_of_pos hu, hrt.2]
  rw [e1, e2]
  congr 2
  simp
  omega
theorem toks_ok : ∀ (n : Nat) (s : List UInt8) (k : Nat), s.length ≤ n → ∀ t ∈ toks k s, TokOk t.1
  | 0, s, k, h, t, ht => by
    obtain rfl : s = [] := List.eq_nil_of_length_eq_zero (by omega)
    rw [toks_nil] at ht
    cases ht
  | n + 1, s, k, h, t, ht => by
    cases s with
    | nil => rw [toks_nil] at ht; cases ht
    | cons b s =>
      by_cases hb : sp b = true
      · rw [toks_sp hb] at ht
        exact toks_ok n s _ (by simpa using h) t ht
      · have hb : sp b = false := by simpa using hb
        rw [toks_cons hb] at ht
        rcases List.mem_cons.1 ht with rfl | ht
        · refine ⟨by simp, fun c hc => ?_⟩
          rcases List.mem_cons.1 hc with rfl | hc
          · exact hb
          · have := List.all_eq_true.1 (List.all_takeWhile (p := fun c => !sp c) (l := s)) c hc
            simpa using this
        · refine toks_ok n _ _ ?_ t ht
          have := (List.dropWhile_sublist (fun c => !sp c) (l := s)).length_le
          simp at h
          omega
theorem tkS_ok (s : List UInt8) : ∀ t ∈ tkS s, TokOk t := fun t ht => by
  obtain ⟨u, hu, rfl⟩ := List.mem_map.1 ht
  exact toks_ok s.length s 0 (Nat.le_refl _) u hu
theorem tkS_at (k : Nat) (s : List UInt8) : (toks k s).map (·.1) = tkS s := toks_shift s.length s (Nat.le_refl _) k 0
theorem tkS_app {g s : List UInt8} (h : g = [] ∨ lastW? g = true) : tkS (g ++ s) = tkS g ++ tkS s := by
  have h1 : tkS (g ++ s) = tkS g ++ (toks (0 + g.length) s).map (·.1) := by
    unfold tkS
    rw [toks_app g.length g s (Nat.le_refl _) h 0, List.map_append]
  rw [h1, tkS_at]
theorem tkS_nil : tkS [] = [] := by unfold tkS; rw [toks_nil]; rfl
theorem tkS_white {g : List UInt8} (h : whiteS g) : tkS g = [] := by
  unfold tkS
  have := toks_white g [] 0 h
  rw [List.append_nil] at this
  rw [this, toks_nil]
  rfl
theorem tkS_tok {w r : List UInt8} (hw : TokOk w) (hr : r = [] ∨ headW? r = true) : tkS (w ++ r) = w :: tkS r := by
  unfold tkS
  rw [toks_tok hw hr 0, List.map_cons, tkS_at]
  rfl
theorem lastW_app {g s : List UInt8} (h : s ≠ []) : lastW? (g ++ s) = lastW? s := by
  unfold lastW?
  rw [List.getLast?_append]
  cases hs : s.getLast? with
  | none => exact absurd (List.getLast?_eq_none_iff.1 hs) h
  | some b => rfl
theorem white_or {g : List UInt8} (h : whiteS g) : g = [] ∨ lastW? g = true := by
  by_cases hn : g = []
  · exact .inl hn
  · exact .inr (white_last h hn)
/-- tokens between white gaps -/
theorem tkS_gaps : ∀ (gs ts : List (List UInt8)) (tl : List UInt8), gs.length = ts.length → (∀ t ∈ ts, TokOk t) → (∀ g ∈ gs, whiteS g ∧ g ≠ []) → (tl = [] ∨ headW? tl = true) → tkS ((gs.zip ts).flatMap (fun p => p.1 ++ p.2) ++ tl) = ts ++ tkS tl ∧ ((gs.zip ts).flatMap (fun p => p.1 ++ p.2) ++ tl = [] ∨ headW? ((gs.zip ts).flatMap (fun p => p.1 ++ p.2) ++ tl) = true)
  | [], [], tl, _, _, _, ht => ⟨by simp, by simpa using ht⟩
  | [], _ :: _, _, h, _, _, _ => by simp at h
  | _ :: _, [], _, h, _, _, _ => by simp at h
  | g :: gs, t :: ts, tl, h, h1, h2, ht => by
    obtain ⟨i1, i2⟩ := tkS_gaps gs ts tl (by simpa using h) (fun u hu => h1 u (by simp [hu])) (fun u hu => h2 u (by simp [hu])) ht
    obtain ⟨hg, hn⟩ := h2 g (by simp)
    rw [List.zip_cons_cons, List.flatMap_cons, List.append_assoc, List.append_assoc]
    refine ⟨?_, .inr ?_⟩
    · rw [tkS_app (white_or hg), tkS_white hg, List.nil_append, tkS_tok (h1 t (by simp)) i2, i1]
      rfl
    · rw [head_append hn]
      exact white_head hg hn
/-- the words of a run of words -/
theorem tkS_fold {ind : List UInt8} (hi : whiteS ind) (W : Int) (ts : List (List UInt8)) (h : ∀ t ∈ ts, TokOk t) (n : Nat) {tl : List UInt8} (ht : tl = [] ∨ headW? tl = true) : tkS ((ts.foldl (bstep ind W) ([], n)).1 ++ tl) = ts ++ tkS tl ∧ ((ts.foldl (bstep ind W) ([], n)).1 ++ tl = [] ∨ headW? ((ts.foldl (bstep ind W) ([], n)).1 ++ tl) = true) := by
  rw [foldl_gaps, List.nil_append]
  exact tkS_gaps _ _ tl (bgaps_len ts n) h (white_bgaps hi W ts n) ht
theorem tkS_block {ind : List UInt8} (hi : whiteS ind) (W : Int) (ts : List (List UInt8)) (h : ∀ t ∈ ts, TokOk t) : tkS (blockS ind W ts) = ts ∧ (blockS ind W ts = [] ∨ lastW? (blockS ind W ts) = true) := by
  cases ts with
  | nil => exact ⟨tkS_nil, .inl rfl⟩
  | cons u r =>
    have hten : whiteS [10] := fun b hb => by simp at hb; subst hb; decide
    have h1 := tkS_gaps (bgaps ind W (ind.length + u.length) r) r [10] (bgaps_len _ _) (fun t ht => h t (by simp [ht])) (white_bgaps hi W r _) (.inr rfl)
    rw [blockS, bfold, foldl_gaps]
    dsimp only
    rw [List.append_assoc, List.append_assoc]
    refine ⟨?_, .inr ?_⟩
    · rw [tkS_app (white_or hi), tkS_white hi, List.nil_append, tkS_tok (h u (by simp)) h1.2, h1.1, tkS_white hten, List.append_nil]
    · rw [← List.append_assoc, ← List.append_assoc, lastW_app (by simp)]
      rfl
theorem tkS_blocks {ind : List UInt8} (hi : whiteS ind) (W : Int) : ∀ (cs : List (List (List UInt8))), (∀ c ∈ cs, ∀ t ∈ c, TokOk t) → tkS (cs.flatMap (blockS ind W)) = cs.flatten ∧ (cs.flatMap (blockS ind W) = [] ∨ lastW? (cs.flatMap (blockS ind W)) = true)
  | [], _ => ⟨tkS_nil, .inl rfl⟩
  | c :: cs, h => by
    obtain ⟨i1, i2⟩ := tkS_blocks hi W cs (fun c hc => h c (by simp [hc]))
    obtain ⟨j1, j2⟩ := tkS_block hi W c (h c (by simp))
    rw [List.flatMap_cons, List.flatten_cons]
    refine ⟨by rw [tkS_app j2, j1, i1], ?_⟩
    rcases i2 with i2 | i2
    · rw [i2, List.append_nil]; exact j2
    · refine .inr ?_
      rw [lastW_app ?_]
      · exact i2
      · intro e; rw [e] at i2; cases i2
theorem comT_mem : ∀ (T cur : List (List UInt8)), ∀ c ∈ comT cur T, ∀ t ∈ c, t ∈ cur ∨ t ∈ T
  | [], cur, c, hc, t, ht => by cases hc
  | u :: T, cur, c, hc, t, ht => by
    rw [comT] at hc
    split at hc
    · rcases List.mem_cons.1 hc with rfl | hc
      · rcases List.mem_append.1 ht with ht | ht
        · exact .inl ht
        · simp at ht; subst ht; simp
      · have := comT_mem T [] c hc t ht
        simp at this
        exact .inr (by simp [this])
    · rcases comT_mem T _ c hc t ht with h | h
      · rcases List.mem_append.1 h with h | h
        · exact .inl h
        · simp at h; subst h; simp
      · exact .inr (by simp [h])
theorem comS_ok (g : List UInt8) : ∀ c ∈ comS g, ∀ t ∈ c, TokOk t := fun c hc t ht => by
  have := comT_mem (tkS g) [] c hc t ht
  simp at this
  exact tkS_ok g t this
theorem comS_flat (g : List UInt8) : ∀ t ∈ (comS g).flatten, TokOk t := fun t ht => by
  obtain ⟨c, hc, ht⟩ := List.mem_flatten.1 ht
  exact comS_ok g c hc t ht
/-- the words of a blank are those of its comments -/
theorem comT_flat : ∀ (T cur : List (List UInt8)) (ins : Bool), brun ins T = some false → (ins = false → cur = []) → (comT cur T).flatten = cur ++ T
  | [], cur, ins, h, hc => by
    rw [brun] at h
    cases h
    rw [hc rfl]
    rfl
  | t :: T, cur, ins, h, hc => by
    rw [brun] at h
    split at h
    · rename_i h1
      rcases h1 with ⟨h1, h2⟩ | ⟨h1, h2⟩
      · subst h1 h2
        rw [comT, if_neg (by decide), comT_flat T _ true h (fun e => by cases e), List.append_assoc]
        rfl
      · subst h1 h2
        rw [comT, if_pos rfl, List.flatten_cons, comT_flat T [] false h (fun _ => rfl), List.append_assoc]
        rfl
    · rename_i h1
      split at h
      · cases h
      · rename_i h2
        have hi : ins = true := by
          cases ins with
          | true => rfl
          | false => simp at h2
        subst hi
        have ht : t ≠ [36, 41] := fun e => h1 (.inr ⟨e, rfl⟩)
        rw [comT, if_neg ht, comT_flat T _ true h (fun e => by cases e), List.append_assoc]
        rfl
theorem com_flat {g : List UInt8} (h : brun false (tkS g) = some false) : (comS g).flatten = tkS g := by
  have := comT_flat (tkS g) [] false h (fun _ => rfl)
  unfold comS
  rw [this]
  rfl
/-- the gaps of a statement behind its first word, as they are printed -/
def innerG (ind : List UInt8) (W : Int) : Nat → List (List UInt8) → List (List UInt8) → List (List UInt8)
  | n, g :: gs, w :: ws => (((comS g).flatten.foldl (bstep ind W) ([], n)).1 ++ bgap ind W ((comS g).flatten.foldl (bstep ind W) ([], n)).2 w) :: innerG ind W (blen ind W ((comS g).flatten.foldl (bstep ind W) ([], n)).2 w) gs ws
  | _, _, _ => []
def stmG (pre ind : List UInt8) (W : Int) : List (List UInt8) → List (List UInt8) → List (List UInt8)
  | g :: gs, w :: ws => (pre ++ ((comS g).flatMap (blockS ind W) ++ ind)) :: innerG ind W (ind.length + w.length) gs ws
  | _, _ => []
/-- what is printed, as a document -/
def rewD (W : Int) : Bool → Int → List PartD → List PartD
  | _, _, [] => []
  | first, D, x :: r => (x.1, stmG (if first then [] else [10]) (indS (atD D x.1.kind)) W x.2 (wordsS x.1)) :: rewD W false (nextD D x.1.kind) r
def rewTl (W : Int) (d : List PartD) (tl : List UInt8) : List UInt8 := (if d.isEmpty then [] else [10]) ++ (comS tl).flatMap (blockS (indS (depD 0 d)) W)
section
variable {ind : List UInt8} {W : Int}
theorem foldl_from : ∀ (ts : List (List UInt8)) (s : List UInt8) (n : Nat), ts.foldl (bstep ind W) (s, n) = (s ++ (ts.foldl (bstep ind W) ([], n)).1, (ts.foldl (bstep ind W) ([], n)).2)
  | [], s, n => by simp
  | t :: ts, s, n => by
    have e : ∀ s : List UInt8, bstep ind W (s, n) t = (s ++ (bgap ind W n t ++ t), blen ind W n t) := fun _ => rfl
    rw [List.foldl_cons, List.foldl_cons, e, e, foldl_from ts (s ++ _), foldl_from ts ([] ++ _)]
    simp
theorem innerG_len : ∀ (gs ws : List (List UInt8)) (n : Nat), gs.length = ws.length → (innerG ind W n gs ws).length = ws.length
  | [], [], _, _ => rfl
  | [], _ :: _, _, h => by simp at h
  | _ :: _, [], _, h => by simp at h
  | g :: gs, w :: ws, n, h => by rw [innerG, List.length_cons, innerG_len gs ws _ (by simpa using h), List.length_cons]
theorem innerG_out : ∀ (gs ws : List (List UInt8)) (s : List UInt8) (n : Nat), gs.length = ws.length → ((lineS gs ws).foldl (bstep ind W) (s, n)).1 = s ++ ((innerG ind W n gs ws).zip ws).flatMap (fun p => p.1 ++ p.2)
  | [], [], s, n, _ => by simp [lineS, innerG]
  | [], _ :: _, _, _, h => by simp at h
  | _ :: _, [], _, _, h => by simp at h
  | g :: gs, w :: ws, s, n, h => by
    rw [lineS, List.foldl_append, List.foldl_cons, foldl_from (comS g).flatten]
    obtain ⟨⟨a, m⟩, ha⟩ : ∃ q, (comS g).flatten.foldl (bstep ind W) ([], n) = q := ⟨_, rfl⟩
    rw [innerG, ha]
    have e : bstep ind W (s ++ a, m) w = (s ++ a ++ (bgap ind W m w ++ w), blen ind W m w) := rfl
    rw [e, innerG_out gs ws (s ++ a ++ (bgap ind W m w ++ w)) (blen ind W m w) (by simpa using h), List.zip_cons_cons, List.flatMap_cons]
    simp
theorem stmG_out (pre : List UInt8) (gs ws : List (List UInt8)) (h : gs.length = ws.length) (hw : ws ≠ []) : ((stmG pre ind W gs ws).zip ws).flatMap (fun p => p.1 ++ p.2) ++ [10] = pre ++ partR ind W gs ws := by
  cases ws with
  | nil => exact absurd rfl hw
  | cons w ws =>
    cases gs with
    | nil => simp at h
    | cons g gs =>
      rw [stmG, partR, blockS, bfold, innerG_out gs ws _ _ (by simpa using h), List.zip_cons_cons, List.flatMap_cons]
      simp
theorem stmG_len (pre : List UInt8) (gs ws : List (List UInt8)) (h : gs.length = ws.length) : (stmG pre ind W gs ws).length = ws.length := by
  cases ws with
  | nil => cases gs with
    | nil => rfl
    | cons g gs => simp at h
  | cons w ws =>
    cases gs with
    | nil => simp at h
    | cons g gs => rw [stmG, List.length_cons, innerG_len gs ws _ (by simpa using h), List.length_cons]
end
theorem lens_cons {x : PartD} {d : List PartD} (h : lensS (x :: d) = true) : x.2.length = (wordsS x.1).length ∧ lensS d = true := by
  unfold lensS at h ⊢
  rw [List.all_cons, Bool.and_eq_true] at h
  exact ⟨by simpa using h.1, h.2⟩
theorem rew_out (W : Int) : ∀ (d : List PartD) (first : Bool) (D : Int), lensS d = true → outS (rewD W first D d) ++ (if first && d.isEmpty then [] else [10]) = (if first then [] else [10]) ++ rewS W D d
  | [], first, D, _ => by cases first <;> simp [rewD, rewS, outS]
  | x :: r, first, D, h => by
    obtain ⟨h1, h2⟩ := lens_cons h
    have ih := rew_out W r false (nextD D x.1.kind) h2
    have h1 := stmG_out (ind := indS (atD D x.1.kind)) (W := W) (if first then [] else [10]) x.2 (wordsS x.1) h1 (words_ne x.1)
    simp only [Bool.false_and, Bool.false_eq_true, if_false] at ih
    have h2 : outS (rewD W first D (x :: r)) = outP (x.1, stmG (if first then [] else [10]) (indS (atD D x.1.kind)) W x.2 (wordsS x.1)) ++ outS (rewD W false (nextD D x.1.kind) r) := by
      rw [rewD]; rfl
    rw [h2, List.append_assoc]
    have h3 : (if first && (x :: r).isEmpty then ([] : List UInt8) else [10]) = [10] := by simp
    rw [h3, ih, rewS, ← List.append_assoc, ← List.append_assoc]
    congr 1
theorem rew_text {d : List PartD} (h : lensS d = true) (W : Int) (tl : List UInt8) : outS (rewD W true 0 d) ++ rewTl W d tl = rewT W d tl := by
  have h1 := rew_out W d true 0 h
  unfold rewTl rewT
  simp only [Bool.true_and, if_true, List.nil_append] at h1
  rw [← List.append_assoc, h1]
theorem rew_fst (W : Int) : ∀ (d : List PartD) (first : Bool) (D : Int), (rewD W first D d).map (·.1) = d.map (·.1)
  | [], _, _ => rfl
  | x :: r, first, D => by rw [rewD, List.map_cons, rew_fst W r, List.map_cons]
theorem rew_lens (W : Int) : ∀ (d : List PartD) (first : Bool) (D : Int), lensS d = true → lensS (rewD W first D d) = true
  | [], _, _, _ => rfl
  | x :: r, first, D, h => by
    obtain ⟨h1, h2⟩ := lens_cons h
    rw [rewD]
    have := rew_lens W r false (nextD D x.1.kind) h2
    unfold lensS at this ⊢
    rw [List.all_cons, this, stmG_len _ _ _ h1]
    simp
end Go.Proofs.YtpmbfcogkoiogaaDoor
end
section
namespace Go.Proofs.YtpmbfcogkoiogaaDoor
theorem byte_sp {b : UInt8} (h : sp b = true) : byteB b = true := by
  unfold sp at h
  unfold byteB
  rw [beq_iff_eq] at h
  rw [h]
  rfl
theorem toks_mem : ∀ (n : Nat) (s : List UInt8) (k : Nat), s.length ≤ n → ∀ t ∈ toks k s, ∀ b ∈ t.1, b ∈ s
  | 0, s, k, h, t, ht, b, hb => by
    obtain rfl : s = [] := List.eq_nil_of_length_eq_zero (by omega)
    rw [toks_nil] at ht
    cases ht
  | n + 1, s, k, h, t, ht, b, hb => by
    cases s with
    | nil => rw [toks_nil] at ht; cases ht
    | cons c s =>
      by_cases hc : sp c = true
      · rw [toks_sp hc] at ht
        exact List.mem_cons_of_mem _ (toks_mem n s _ (by simpa using h) t ht b hb)
      · have hc : sp c = false := by simpa using hc
        rw [toks_cons hc] at ht
        rcases List.mem_cons.1 ht with rfl | ht
        · rcases List.mem_cons.1 hb with rfl | hb
          · simp
          · exact List.mem_cons_of_mem _ ((List.takeWhile_sublist (fun c => !sp c) (l := s)).subset hb)
        · have h1 := toks_mem n _ _ (by
            have := (List.dropWhile_sublist (fun c => !sp c) (l := s)).length_le
            simp at h
            omega) t ht b hb
          exact List.mem_cons_of_mem _ ((List.dropWhile_sublist (fun c => !sp c) (l := s)).subset h1)
theorem tkS_mem {g t : List UInt8} (h : t ∈ tkS g) : ∀ b ∈ t, b ∈ g := by
  obtain ⟨u, hu, rfl⟩ := List.mem_map.1 h
  exact toks_mem g.length g 0 (Nat.le_refl _) u hu
theorem fold_mem {ind : List UInt8} (hi : whiteS ind) (W : Int) : ∀ (ts : List (List UInt8)) (s : List UInt8) (n : Nat), ∀ b ∈ (ts.foldl (bstep ind W) (s, n)).1, b ∈ s ∨ sp b = true ∨ ∃ t ∈ ts, b ∈ t
  | [], s, n, b, h => .inl h
  | t :: ts, s, n, b, h => by
    rw [List.foldl_cons] at h
    rcases fold_mem hi W ts _ _ b h with h | h | ⟨u, hu, h⟩
    · have h' : b ∈ s ++ (bgap ind W n t ++ t) := h
      rcases List.mem_append.1 h' with h | h
      · exact .inl h
      · rcases List.mem_append.1 h with h | h
        · exact .inr (.inl ((white_bgap hi W n t).1 b h))
        · exact .inr (.inr ⟨t, by simp, h⟩)
    · exact .inr (.inl h)
    · exact .inr (.inr ⟨u, by simp [hu], h⟩)
theorem block_mem {ind : List UInt8} (hi : whiteS ind) (W : Int) (ts : List (List UInt8)) : ∀ b ∈ blockS ind W ts, sp b = true ∨ ∃ t ∈ ts, b ∈ t := by
  intro b h
  cases ts with
  | nil => cases h
  | cons u r =>
    rw [blockS] at h
    rcases List.mem_append.1 h with h | h
    · rcases fold_mem hi W r _ _ b h with h | h | ⟨t, ht, h⟩
      · rcases List.mem_append.1 h with h | h
        · exact .inl (hi b h)
        · exact .inr ⟨u, by simp, h⟩
      · exact .inl h
      · exact .inr ⟨t, by simp [ht], h⟩
    · simp at h
      subst h
      exact .inl (by decide)
/-- a blank, by its words -/
theorem blank_tk {g : List UInt8} : blankP g = true ↔ (∀ b ∈ g, byteB b = true) ∧ brun false (tkS g) = some false := by
  unfold blankP
  rw [Bool.and_eq_true, List.all_eq_true]
  exact and_congr Iff.rfl (by rw [beq_iff_eq]; rfl)
theorem blank_nil : blankP [] = true := blank_tk.2 ⟨fun b h => (by cases h), by rw [tkS_nil]; rfl⟩
theorem gap_blank {f : Bool} {g : List UInt8} (h : gapOk f g = true) : blankP g = true := by
  unfold gapOk at h
  split at h
  · rename_i h1
    rw [Bool.and_eq_true] at h1
    have : g = [] := by simpa using h1.2
    subst this
    exact blank_nil
  · simp only [Bool.and_eq_true] at h
    exact h.1.1
theorem gap_last {f : Bool} {g : List UInt8} (h : gapOk f g = true) : g = [] ∨ lastW? g = true := by
  unfold gapOk at h
  split at h
  · rename_i h1
    rw [Bool.and_eq_true] at h1
    exact .inl (by simpa using h1.2)
  · simp only [Bool.and_eq_true] at h
    exact .inr h.1.2
theorem gap_head {g : List UInt8} (h : gapOk false g = true) : headW? g = true := by
  unfold gapOk at h
  rw [if_neg (by simp)] at h
  simp only [Bool.and_eq_true, Bool.or_eq_true] at h
  exact h.2.resolve_left (by simp)
/-- a text of the bytes of white space and of the words of a blank, with its words, is a blank -/
theorem blank_like {g G : List UInt8} (h : blankP g = true) (hm : ∀ b ∈ G, sp b = true ∨ ∃ t ∈ tkS g, b ∈ t) (ht : tkS G = tkS g) : blankP G = true := by
  rw [blank_tk] at h ⊢
  refine ⟨fun b hb => ?_, by rw [ht]; exact h.2⟩
  rcases hm b hb with h1 | ⟨t, h1, h2⟩
  · exact byte_sp h1
  · exact h.1 b (tkS_mem h1 b h2)
theorem com_tk {g t : List UInt8} (h : blankP g = true) (ht : t ∈ (comS g).flatten) : t ∈ tkS g := by
  rwa [com_flat (blank_tk.1 h).2] at ht
theorem com_tk2 {g t : List UInt8} {c : List (List UInt8)} (h : blankP g = true) (hc : c ∈ comS g) (ht : t ∈ c) : t ∈ tkS g := com_tk h (List.mem_flatten.2 ⟨c, hc, ht⟩)
section
variable {ind : List UInt8} {W : Int}
theorem inner_ok (hi : whiteS ind) : ∀ (gs ws : List (List UInt8)) (n : Nat), gs.length = ws.length → (∀ g ∈ gs, blankP g = true) → (∀ G ∈ innerG ind W n gs ws, gapOk false G = true) ∧ (innerG ind W n gs ws).map tkS = gs.map tkS
  | [], [], _, _, _ => ⟨fun G h => (by cases h), rfl⟩
  | [], _ :: _, _, h, _ => by simp at h
  | _ :: _, [], _, h, _ => by simp at h
  | g :: gs, w :: ws, n, h, hb => by
    have hg := hb g (by simp)
    rw [innerG]
    obtain ⟨⟨a, m⟩, ha⟩ : ∃ q, (comS g).flatten.foldl (bstep ind W) ([], n) = q := ⟨_, rfl⟩
    rw [ha]
    dsimp only
    obtain ⟨i1, i2⟩ := inner_ok hi gs ws (blen ind W m w) (by simpa using h) (fun c hc => hb c (by simp [hc]))
    obtain ⟨b1, b2⟩ := white_bgap hi W m w
    obtain ⟨t1, t2⟩ := tkS_fold hi W (comS g).flatten (comS_flat g) n (tl := bgap ind W m w) (.inr (white_head b1 b2))
    rw [ha, tkS_white b1, List.append_nil, com_flat (blank_tk.1 hg).2] at t1
    rw [ha] at t2
    dsimp only at t1 t2
    have hne : a ++ bgap ind W m w ≠ [] := fun e => b2 (List.append_eq_nil_iff.1 e).2
    have h3 := t2.resolve_left hne
    have h4 : lastW? (a ++ bgap ind W m w) = true := by rw [lastW_app b2]; exact white_last b1 b2
    have h5 : blankP (a ++ bgap ind W m w) = true := blank_like hg (fun b hbm => by
      rcases List.mem_append.1 hbm with hbm | hbm
      · have h6 : b ∈ ((comS g).flatten.foldl (bstep ind W) ([], n)).1 := by rw [ha]; exact hbm
        rcases fold_mem hi W _ _ _ b h6 with h7 | h7 | ⟨t, ht, h7⟩
        · cases h7
        · exact .inl h7
        · exact .inr ⟨t, com_tk hg ht, h7⟩
      · exact .inl (b1 b hbm)) t1
    refine ⟨fun G hG => ?_, by rw [List.map_cons, List.map_cons, i2, t1]⟩
    rcases List.mem_cons.1 hG with rfl | hG
    · unfold gapOk
      rw [if_neg (by simp), h5, h4, h3]
      rfl
    · exact i1 G hG
theorem first_ok (hi : whiteS ind) (first : Bool) {g : List UInt8} (hg : blankP g = true) : gapOk first ((if first then [] else [10]) ++ ((comS g).flatMap (blockS ind W) ++ ind)) = true ∧ tkS ((if first then [] else [10]) ++ ((comS g).flatMap (blockS ind W) ++ ind)) = tkS g := by
  obtain ⟨t1, t2⟩ := tkS_blocks hi W (comS g) (comS_ok g)
  have hpre : whiteS (if first then ([] : List UInt8) else [10]) := by
    intro b hb
    split at hb
    · cases hb
    · simp at hb; subst hb; decide
  have htk : tkS ((if first then [] else [10]) ++ ((comS g).flatMap (blockS ind W) ++ ind)) = tkS g := by
    rw [tkS_app (white_or hpre), tkS_white hpre, List.nil_append, tkS_app t2, t1, tkS_white hi, List.append_nil, com_flat (blank_tk.1 hg).2]
  refine ⟨?_, htk⟩
  have hbl : blankP ((if first then [] else [10]) ++ ((comS g).flatMap (blockS ind W) ++ ind)) = true := blank_like hg (fun b hbm => by
    rcases List.mem_append.1 hbm with hbm | hbm
    · exact .inl (hpre b hbm)
    · rcases List.mem_append.1 hbm with hbm | hbm
      · obtain ⟨c, hc, hbm⟩ := List.mem_flatMap.1 hbm
        rcases block_mem hi W c b hbm with h7 | ⟨t, ht, h7⟩
        · exact .inl h7
        · exact .inr ⟨t, com_tk2 hg hc ht, h7⟩
      · exact .inl (hi b hbm)) htk
  have hlast : (comS g).flatMap (blockS ind W) ++ ind = [] ∨ lastW? ((comS g).flatMap (blockS ind W) ++ ind) = true := by
    by_cases h1 : ind = []
    · rcases t2 with t2 | t2
      · left; rw [t2, h1]; rfl
      · right
        have h2 : (comS g).flatMap (blockS ind W) ++ ind = (comS g).flatMap (blockS ind W) := by rw [h1, List.append_nil]
        rw [h2]
        exact t2
    · right
      rw [lastW_app h1]
      exact white_last hi h1
  clear htk
  cases first with
  | true =>
    simp only [if_true, List.nil_append] at hbl ⊢
    unfold gapOk
    by_cases hne : (comS g).flatMap (blockS ind W) ++ ind = []
    · rw [hne]; rfl
    · rw [if_neg (by simpa using hne), hbl, hlast.resolve_left hne]
      rfl
  | false =>
    have h2 : lastW? ([10] ++ ((comS g).flatMap (blockS ind W) ++ ind)) = true := by
      rcases hlast with h3 | h3
      · rw [h3]; rfl
      · rw [lastW_app (by intro e; rw [e] at h3; cases h3)]
        exact h3
    simp only [Bool.false_eq_true, if_false] at hbl ⊢
    unfold gapOk
    rw [if_neg (by simp), hbl, h2]
    rfl
theorem stm_ok (hi : whiteS ind) (first : Bool) (gs ws : List (List UInt8)) (h : gs.length = ws.length) (hb : ∀ g ∈ gs, blankP g = true) : rightG first (stmG (if first then [] else [10]) ind W gs ws) = true ∧ (stmG (if first then [] else [10]) ind W gs ws).map tkS = gs.map tkS := by
  cases ws with
  | nil => cases gs with
    | nil => exact ⟨rfl, rfl⟩
    | cons g gs => simp at h
  | cons w ws =>
    cases gs with
    | nil => simp at h
    | cons g gs =>
      obtain ⟨a1, a2⟩ := first_ok (W := W) hi first (hb g (by simp))
      obtain ⟨b1, b2⟩ := inner_ok (W := W) hi gs ws (ind.length + w.length) (by simpa using h) (fun c hc => hb c (by simp [hc]))
      rw [stmG, rightG, List.map_cons, List.map_cons, a1, a2, b2]
      exact ⟨List.all_eq_true.2 b1, rfl⟩
end
def tkD (d : List PartD) : List (StmD × List (List (List UInt8))) := d.map fun x => (x.1, x.2.map tkS)
theorem rew_ok (W : Int) : ∀ (d : List PartD) (first : Bool) (D : Int), lensS d = true → (∀ x ∈ d, ∀ g ∈ x.2, blankP g = true) → rightP first (rewD W first D d) = true ∧ tkD (rewD W first D d) = tkD d
  | [], _, _, _, _ => ⟨rfl, rfl⟩
  | x :: r, first, D, h, hb => by
    obtain ⟨h1, h2⟩ := lens_cons h
    obtain ⟨i1, i2⟩ := rew_ok W r false (nextD D x.1.kind) h2 (fun y hy => hb y (by simp [hy]))
    obtain ⟨a1, a2⟩ := stm_ok (ind := indS (atD D x.1.kind)) (W := W) (white_ind _) first x.2 (wordsS x.1) h1 (hb x (by simp))
    rw [rewD]
    unfold tkD at i2 ⊢
    rw [rightP, List.map_cons, List.map_cons, i2, a1, i1, a2]
    exact ⟨rfl, rfl⟩
theorem tl_ok (W : Int) (d : List PartD) {tl : List UInt8} (ht : blankP tl = true) : blankP (rewTl W d tl) = true ∧ tkS (rewTl W d tl) = tkS tl ∧ (d = [] ∨ headW? (rewTl W d tl) = true) := by
  have hi := white_ind (depD 0 d)
  obtain ⟨t1, t2⟩ := tkS_blocks hi W (comS tl) (comS_ok tl)
  have hpre : whiteS (if d.isEmpty then ([] : List UInt8) else [10]) := by
    intro b hb
    split at hb
    · cases hb
    · simp at hb; subst hb; decide
  have htk : tkS (rewTl W d tl) = tkS tl := by
    unfold rewTl
    rw [tkS_app (white_or hpre), tkS_white hpre, List.nil_append, t1, com_flat (blank_tk.1 ht).2]
  refine ⟨blank_like ht (fun b hbm => ?_) htk, htk, ?_⟩
  · unfold rewTl at hbm
    rcases List.mem_append.1 hbm with hbm | hbm
    · exact .inl (hpre b hbm)
    · obtain ⟨c, hc, hbm⟩ := List.mem_flatMap.1 hbm
      rcases block_mem hi W c b hbm with h7 | ⟨t, ht', h7⟩
      · exact .inl h7
      · exact .inr ⟨t, com_tk2 ht hc ht', h7⟩
  · cases d with
    | nil => exact .inl rfl
    | cons x r => exact .inr rfl
/-- what is printed depends on the words of the gaps alone -/
theorem line_congr : ∀ (gs gs' ws : List (List UInt8)), gs.map tkS = gs'.map tkS → lineS gs ws = lineS gs' ws
  | [], [], _, _ => rfl
  | [], _ :: _, _, h => by simp at h
  | _ :: _, [], _, h => by simp at h
  | g :: gs, g' :: gs', [], h => by rw [lineS, lineS] <;> simp
  | g :: gs, g' :: gs', w :: ws, h => by
    rw [List.map_cons, List.map_cons, List.cons.injEq] at h
    rw [lineS, lineS, line_congr gs gs' ws h.2]
    unfold comS
    rw [h.1]
theorem part_congr (ind : List UInt8) (W : Int) (gs gs' ws : List (List UInt8)) (h : gs.map tkS = gs'.map tkS) : partR ind W gs ws = partR ind W gs' ws := by
  cases gs with
  | nil => cases gs' with
    | nil => rfl
    | cons a r => simp at h
  | cons g gs =>
    cases gs' with
    | nil => simp at h
    | cons g' gs' =>
      rw [List.map_cons, List.map_cons, List.cons.injEq] at h
      cases ws with
      | nil => rfl
      | cons w ws =>
        rw [partR, partR, line_congr gs gs' ws h.2]
        unfold comS
        rw [h.1]
theorem rew_congr (W : Int) : ∀ (d d' : List PartD) (D : Int), tkD d = tkD d' → rewS W D d = rewS W D d' ∧ depD D d = depD D d'
  | [], [], _, _ => ⟨rfl, rfl⟩
  | [], _ :: _, _, h => by simp [tkD] at h
  | _ :: _, [], _, h => by simp [tkD] at h
  | x :: d, x' :: d', D, h => by
    unfold tkD at h
    rw [List.map_cons, List.map_cons, List.cons.injEq, Prod.mk.injEq] at h
    obtain ⟨⟨h1, h2⟩, h3⟩ := h
    obtain ⟨i1, i2⟩ := rew_congr W d d' (nextD D x.1.kind) h3
    have e1 : depD D (x :: d) = depD (nextD D x.1.kind) d := rfl
    have e2 : depD D (x' :: d') = depD (nextD D x'.1.kind) d' := rfl
    rw [rewS, rewS, part_congr _ W _ _ _ h2, e1, e2, i2, i1, h1]
    exact ⟨rfl, rfl⟩
theorem rewT_congr (W : Int) {d d' : List PartD} {tl tl' : List UInt8} (h : tkD d = tkD d') (ht : tkS tl = tkS tl') : rewT W d tl = rewT W d' tl' := by
  obtain ⟨h1, h2⟩ := rew_congr W d d' 0 h
  unfold rewT comS
  rw [h1, h2, ht]
/-- words and the words of gaps in turn -/
def interT : List (List (List UInt8)) → List (List UInt8) → List (List UInt8)
  | g :: gs, w :: ws => g ++ w :: interT gs ws
  | _, _ => []
theorem tk_zip {tl : List UInt8} (ht : tl = [] ∨ headW? tl = true) : ∀ (gs ws : List (List UInt8)), gs.length = ws.length → (∀ w ∈ ws, TokOk w) → (∀ g ∈ gs, g = [] ∨ lastW? g = true) → (∀ g ∈ gs.tail, headW? g = true) → tkS ((gs.zip ws).flatMap (fun p => p.1 ++ p.2) ++ tl) = interT (gs.map tkS) ws ++ tkS tl
  | [], [], _, _, _, _ => by simp [interT]
  | [], _ :: _, h, _, _, _ => by simp at h
  | _ :: _, [], h, _, _, _ => by simp at h
  | g :: gs, w :: ws, h, h1, h2, h3 => by
    have ih := tk_zip ht gs ws (by simpa using h) (fun u hu => h1 u (by simp [hu])) (fun u hu => h2 u (by simp [hu])) (fun u hu => h3 u (by
      cases gs with
      | nil => cases hu
      | cons a r => simpa using List.mem_cons_of_mem a hu))
    rw [List.zip_cons_cons, List.flatMap_cons, List.append_assoc, List.append_assoc, tkS_app (h2 g (by simp)), tkS_tok (h1 w (by simp)) ?_, ih]
    · simp [interT]
    · cases gs with
      | nil =>
        cases ws with
        | nil => simpa using ht
        | cons a r => simp at h
      | cons a r =>
        cases ws with
        | nil => simp at h
        | cons u s =>
          right
          have h4 := h3 a (by simp)
          cases a with
          | nil => cases h4
          | cons b a => simpa [headW?] using h4
/-- the words of a document's text -/
theorem tk_doc {d : List PartD} {tl : List UInt8} (hf : ∀ x ∈ d, formedS x.1 = true) (hl : lensS d = true) (hr : docRight d tl = true) : tkS (outS d ++ tl) = interT ((d.map (·.2)).flatten.map tkS) ((d.map (·.1)).flatMap wordsS) ++ tkS tl := by
  unfold docRight at hr
  rw [Bool.and_eq_true] at hr
  by_cases hd : d = []
  · subst hd
    simp [outS, interT]
  have htl : tl = [] ∨ headW? tl = true := by
    have h2 := hr.2
    rw [Bool.or_eq_true, Bool.and_eq_true, Bool.or_eq_true] at h2
    rcases h2 with h2 | h2
    · exact .inl (by simpa using h2)
    · exact .inr (h2.2.resolve_left (by simpa using hd))
  have hne : ∀ x ∈ d, x.2 ≠ [] := fun x hx e => by
    have h1 := List.all_eq_true.1 hl x hx
    rw [e] at h1
    have h2 := words_pos x.1
    simp at h1
    omega
  have hg := rightG_of d true hne hr.1
  rw [flatMap_zip_flat d hl]
  refine tk_zip htl _ _ (lens_flat d hl) (fun w hw => ?_) (fun g hgm => ?_) (fun g hgm => ?_)
  · obtain ⟨x, hx, hw⟩ := List.mem_flatMap.1 hw
    obtain ⟨y, hy, rfl⟩ := List.mem_map.1 hx
    exact (words_word (hf y hy) w hw).tok
  · obtain ⟨f, h1⟩ := rightG_gap hg g hgm
    exact gap_last h1
  · cases hq : (d.map (·.2)).flatten with
    | nil => rw [hq] at hgm; cases hgm
    | cons a r =>
      rw [hq, List.tail_cons] at hgm
      rw [hq, rightG, Bool.and_eq_true] at hg
      exact gap_head (List.all_eq_true.1 hg.2 g hgm)
/-- Rewrap, once more -/
theorem rew_again {text : List UInt8} {d : List PartD} {tl : List UInt8} {off : Nat} (h : docS text = (d, tl, off, 0)) (W : Int) (hsz : (rewT W d tl).length ≤ 40000) :
    docS (rewT W d tl) = (rewD W true 0 d, rewTl W d tl, 0, 0) ∧ rewT W (rewD W true 0 d) (rewTl W d tl) = rewT W d tl ∧ tkS text = tkS (rewT W d tl) := by
  have hw := read_write h
  obtain ⟨ha, hl, hr, hout, h8⟩ : (allW (d.map (·.1))).2 = 0 ∧ lensS d = true ∧ docRight d tl = true ∧ outS d ++ tl = text ∧ (toks 0 text).length ≤ 8000 := by
    unfold writeS at hw
    split at hw
    · rename_i h1
      exact absurd (congrArg Prod.snd hw) h1
    · rename_i h1
      split at hw
      · exact absurd (congrArg Prod.snd hw) (show ¬ ((_ : Int) = 0) by decide)
      · rename_i h2
        split at hw
        · exact absurd (congrArg Prod.snd hw) (show ¬ ((_ : Int) = 0) by decide)
        · rename_i h3
          split at hw
          · exact absurd (congrArg Prod.snd hw) (show ¬ ((_ : Int) = 0) by decide)
          · split at hw
            · exact absurd (congrArg Prod.snd hw) (show ¬ ((_ : Int) = 0) by decide)
            · rename_i h5
              have ho : outS d ++ tl = text := congrArg Prod.fst hw
              rw [ho] at h5
              exact ⟨by simpa using h1, by simpa using h2, by simpa using h3, ho, by omega⟩
  have hf : ∀ x ∈ d, formedS x.1 = true := fun x hx => allW_fine ha x.1 (List.mem_map_of_mem hx)
  have hr' := hr
  unfold docRight at hr'
  rw [Bool.and_eq_true] at hr'
  have hgb : ∀ x ∈ d, ∀ g ∈ x.2, blankP g = true := fun x hx g hg => by
    obtain ⟨f, h1⟩ := rightP_gap hr'.1 x hx g hg
    exact gap_blank h1
  have htb : blankP tl = true := by
    have h2 := hr'.2
    rw [Bool.or_eq_true, Bool.and_eq_true] at h2
    rcases h2 with h2 | h2
    · have : tl = [] := by simpa using h2
      rw [this]
      exact blank_nil
    · exact h2.1
  obtain ⟨r1, r2⟩ := rew_ok W d true 0 hl hgb
  obtain ⟨t1, t2, t3⟩ := tl_ok W d htb
  have hlens := rew_lens W d true 0 hl
  have htext := rew_text hl W tl
  have hdr : docRight (rewD W true 0 d) (rewTl W d tl) = true := by
    unfold docRight
    rw [r1, t1, Bool.true_and, Bool.true_and]
    rcases t3 with h1 | h1
    · subst h1
      simp [rewD]
    · rw [h1]
      simp
  have hf' : ∀ x ∈ rewD W true 0 d, formedS x.1 = true := fun x hx => by
    have h1 : x.1 ∈ (rewD W true 0 d).map (·.1) := List.mem_map_of_mem hx
    rw [rew_fst] at h1
    exact allW_fine ha x.1 h1
  have hflat : (((rewD W true 0 d).map (·.2)).flatten).map tkS = ((d.map (·.2)).flatten).map tkS := by
    have h1 := congrArg (fun l : List (StmD × List (List (List UInt8))) => (l.map (·.2)).flatten) r2
    unfold tkD at h1
    simp only [List.map_map, Function.comp_def] at h1
    rw [List.map_flatten, List.map_flatten, List.map_map, List.map_map]
    exact h1
  have htok : tkS text = tkS (rewT W d tl) := by
    rw [← hout, tk_doc hf hl hr, ← htext, tk_doc hf' hlens hdr, hflat, rew_fst, t2]
  refine ⟨?_, rewT_congr W r2 t2, htok⟩
  have hws : writeS (rewD W true 0 d) (rewTl W d tl) = (rewT W d tl, 0) := by
    unfold writeS
    rw [rew_fst, if_neg (by simpa using ha), if_neg (by rw [hlens]; simp), if_neg (by rw [hdr]; simp), htext, if_neg (by omega), if_neg ?_]
    have h1 := congrArg List.length htok
    unfold tkS at h1
    rw [List.length_map, List.length_map] at h1
    omega
  have h4 := write_read (d := rewD W true 0 d) (tl := rewTl W d tl) (by rw [hws])
  rw [hws] at h4
  exact h4
end Go.Proofs.YtpmbfcogkoiogaaDoor
end
