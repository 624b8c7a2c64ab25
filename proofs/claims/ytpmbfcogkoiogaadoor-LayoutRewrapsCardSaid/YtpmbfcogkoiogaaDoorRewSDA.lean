/- Rewrap: the sizes of what it prints. Rewrap: the documents of texts are small enough. -/
import Derived.Test.YtpmbfcogkoiogaaDoorRewA
import Derived.Test.YtpmbfcogkoiogaaDoorPrintSz
section
namespace Go.Proofs.YtpmbfcogkoiogaaDoor
/-- the tokens of a statement in the order of Rewrap -/
def partQ : List (List UInt8) → List (List UInt8) → List (List UInt8)
  | g :: gs, w :: ws => (comS g).flatten ++ w :: lineS gs ws
  | _, _ => []
def docQ (d : List PartD) : List (List UInt8) := d.flatMap fun x => partQ x.2 (wordsS x.1)
/-- the words that wait behind j words -/
def blkW (gs ws : List (List UInt8)) (j : Nat) : List (List UInt8) := lineS (([] :: gs.tail).take j) (ws.take j)
/-- what is printed, and what waits, behind j words and some comments ahead of the next -/
def oS (ind : List UInt8) (W : Int) (X : List UInt8) (gs : List (List UInt8)) (j : Nat) (pre : List (List (List UInt8))) : List UInt8 := X ++ (if j = 0 then pre else comS (gs.headD [])).flatMap (blockS ind W)
def bS (gs ws : List (List UInt8)) (j : Nat) (pre : List (List (List UInt8))) : List (List UInt8) := blkW gs ws j ++ (if j = 0 then [] else pre.flatten)
structure RwSz (d : List PartD) (tl : List UInt8) : Prop where
  few : d.length ≤ 10000
  ok : ∀ x ∈ d, (1 ≤ x.1.kind ∧ x.1.kind ≤ 9) ∧ x.1.text.length ≤ 10000 ∧ x.1.proof.length ≤ 10000
  gap : ∀ x ∈ d, ∀ g ∈ x.2, g.length ≤ 1000000 ∧ ∀ b ∈ g, b.toNat < 128
  tail : tl.length ≤ 1000000 ∧ ∀ b ∈ tl, b.toNat < 128
  lens : lensS d = true
  num : (docQ d ++ (comS tl).flatten).length ≤ 8000
  sum : sumL (docQ d ++ (comS tl).flatten) ≤ 1000000
theorem comS_nil : comS [] = [] := by unfold comS; rw [tkS_nil]; rfl
theorem line_snoc : ∀ (gs ws : List (List UInt8)) (j : Nat) (g w : List UInt8), gs[j]? = some g → ws[j]? = some w → lineS (gs.take (j + 1)) (ws.take (j + 1)) = lineS (gs.take j) (ws.take j) ++ ((comS g).flatten ++ [w])
  | a :: gs, b :: ws, 0, g, w, h1, h2 => by
    obtain rfl : a = g := by simpa using h1
    obtain rfl : b = w := by simpa using h2
    simp [lineS]
  | a :: gs, b :: ws, j + 1, g, w, h1, h2 => by
    have := line_snoc gs ws j g w (by simpa using h1) (by simpa using h2)
    rw [List.take_succ_cons, List.take_succ_cons, lineS, this, List.take_succ_cons, List.take_succ_cons, lineS]
    simp
  | [], _, _, _, _, h, _ => by simp at h
  | _ :: _, [], _, _, _, _, h => by simp at h
theorem blk_snoc {gs ws : List (List UInt8)} {j : Nat} {g w : List UInt8} (hg : gs[j]? = some g) (hw : ws[j]? = some w) : blkW gs ws (j + 1) = bS gs ws j (comS g) ++ [w] := by
  unfold blkW bS blkW
  cases j with
  | zero =>
    rw [line_snoc ([] :: gs.tail) ws 0 [] w rfl hw, comS_nil]
    simp
  | succ j =>
    have : ([] :: gs.tail)[j + 1]? = some g := by
      cases gs with
      | nil => simp at hg
      | cons a gs => simpa using hg
    rw [line_snoc _ ws (j + 1) g w this hw]
    simp
theorem o_next {ind : List UInt8} {W : Int} {X g : List UInt8} {gs : List (List UInt8)} {j : Nat} (hg : gs[j]? = some g) : oS ind W X gs j (comS g) = oS ind W X gs (j + 1) [] := by
  unfold oS
  by_cases h : j = 0
  · subst h
    rw [if_pos rfl, if_neg (by omega)]
    cases gs with
    | nil => simp at hg
    | cons a gs =>
      obtain rfl : a = g := by simpa using hg
      rfl
  · rw [if_neg h, if_neg (by omega)]
theorem o_end {ind : List UInt8} {W : Int} {X : List UInt8} {gs ws : List (List UInt8)} (h : gs.length = ws.length) (hw : ws ≠ []) : oS ind W X gs ws.length [] ++ blockS ind W (blkW gs ws ws.length) = X ++ partR ind W gs ws := by
  cases ws with
  | nil => exact absurd rfl hw
  | cons w ws => cases gs with
    | nil => simp at h
    | cons g gs =>
      have hl : gs.length = ws.length := by simpa using h
      unfold oS blkW
      rw [if_neg (by simp), List.length_cons, List.take_of_length_le (by simp; omega), List.take_of_length_le (by simp), lineS, comS_nil, partR]
      simp
/-- blocks are no longer than their words and what may stand between -/
theorem blocks_len (D W : Int) : ∀ (bl : List (List (List UInt8))), (bl.flatMap (blockS (indS D) W)).length ≤ sumL bl.flatten + bl.flatten.length * 1006
  | [] => by simp
  | b :: bl => by
    have h1 := blockS_len D W b
    have h2 := blocks_len D W bl
    rw [List.flatMap_cons, List.flatten_cons, sumL_app, List.length_append, List.length_append]
    omega
theorem part_len (D W : Int) (gs ws : List (List UInt8)) : (partR (indS D) W gs ws).length ≤ sumL (partQ gs ws) + (partQ gs ws).length * 1006 := by
  cases gs with
  | nil => simp [partR, partQ]
  | cons g gs => cases ws with
    | nil => simp [partR, partQ]
    | cons w ws =>
      have h1 := blocks_len D W (comS g)
      have h2 := blockS_len D W (w :: lineS gs ws)
      rw [partR, partQ, sumL_app, List.length_append, List.length_append]
      omega
theorem rew_len (W : Int) : ∀ (d : List PartD) (D : Int), (rewS W D d).length ≤ sumL (docQ d) + (docQ d).length * 1006
  | [], _ => by simp [rewS]
  | x :: r, D => by
    have h1 := part_len (atD D x.1.kind) W x.2 (wordsS x.1)
    have h2 := rew_len W r (nextD D x.1.kind)
    unfold docQ at h2 ⊢
    rw [rewS, List.flatMap_cons, sumL_app, List.length_append, List.length_append]
    omega
theorem rew_app (W : Int) : ∀ (a b : List PartD) (D : Int), rewS W D (a ++ b) = rewS W D a ++ rewS W (depD D a) b
  | [], b, D => rfl
  | x :: a, b, D => by
    rw [List.cons_append, rewS, rewS, rew_app W a b, List.append_assoc]
    rfl
theorem depD_le : ∀ (l : List PartD) (D : Int), D - l.length ≤ depD D l ∧ depD D l ≤ D + l.length
  | [], D => by simp [depD]
  | x :: l, D => by
    have h := depD_le l (nextD D x.1.kind)
    have h2 : D - 1 ≤ nextD D x.1.kind ∧ nextD D x.1.kind ≤ D + 1 := by
      unfold nextD
      split
      · omega
      · split <;> omega
    have e : depD D (x :: l) = depD (nextD D x.1.kind) l := rfl
    rw [e, List.length_cons]
    omega
theorem depD_snoc {l : List PartD} {i : Nat} {x : PartD} (h : l[i]? = some x) (D : Int) : depD D (l.take (i + 1)) = nextD (depD D (l.take i)) x.1.kind := by
  unfold depD
  rw [take_snoc h, List.foldl_append]
  rfl
theorem rewS_snoc {l : List PartD} {i : Nat} {x : PartD} (h : l[i]? = some x) (W D : Int) : rewS W D (l.take (i + 1)) = rewS W D (l.take i) ++ partR (indS (atD (depD D (l.take i)) x.1.kind)) W x.2 (wordsS x.1) := by
  rw [take_snoc h, rew_app]
  simp [rewS]
theorem docQ_split {d : List PartD} {i : Nat} {x : PartD} (h : d[i]? = some x) : sumL (docQ d) = sumL (docQ (d.take i)) + sumL (partQ x.2 (wordsS x.1)) + sumL (docQ (d.drop (i + 1))) ∧ (docQ d).length = (docQ (d.take i)).length + (partQ x.2 (wordsS x.1)).length + (docQ (d.drop (i + 1))).length := by
  have hlt := (List.getElem?_eq_some_iff.1 h).1
  have hd : d.drop i = x :: d.drop (i + 1) := by
    rw [List.drop_eq_getElem_cons hlt]
    congr 1
    exact (List.getElem?_eq_some_iff.1 h).2
  have e : docQ d = docQ (d.take i) ++ (partQ x.2 (wordsS x.1) ++ docQ (d.drop (i + 1))) := by
    conv => lhs; rw [← List.take_append_drop i d, hd]
    unfold docQ
    rw [List.flatMap_append, List.flatMap_cons]
  rw [e, sumL_app, sumL_app, List.length_append, List.length_append]
  omega
/-- lists of words by their parts -/
theorem line_len : ∀ (gs ws : List (List UInt8)) (j : Nat), sumL (lineS (gs.take j) (ws.take j)) ≤ sumL (lineS gs ws) ∧ (lineS (gs.take j) (ws.take j)).length ≤ (lineS gs ws).length
  | _, _, 0 => by simp [lineS, sumL]
  | [], _, j + 1 => by simp [lineS, sumL]
  | _ :: _, [], j + 1 => by simp [lineS, sumL]
  | g :: gs, w :: ws, j + 1 => by
    have := line_len gs ws j
    rw [List.take_succ_cons, List.take_succ_cons, lineS, lineS, sumL_app, sumL_app, sumL_cons, sumL_cons]
    simp only [List.length_append, List.length_cons]
    omega
theorem blk_len (gs ws : List (List UInt8)) (h : gs.length = ws.length) (j : Nat) : sumL (blkW gs ws j) + sumL (comS (gs.headD [])).flatten ≤ sumL (partQ gs ws) + sumL (comS (gs.headD [])).flatten ∧ sumL (blkW gs ws j) ≤ sumL (partQ gs ws) ∧ (blkW gs ws j).length ≤ (partQ gs ws).length := by
  have h1 := line_len ([] :: gs.tail) ws j
  unfold blkW
  have h2 : sumL (lineS ([] :: gs.tail) ws) ≤ sumL (partQ gs ws) ∧ (lineS ([] :: gs.tail) ws).length ≤ (partQ gs ws).length := by
    cases ws with
    | nil => simp [lineS, sumL]
    | cons w ws => cases gs with
      | nil => simp at h
      | cons g gs =>
        rw [lineS, comS_nil, partQ, List.tail_cons, sumL_app, List.length_append]
        simp [sumL]
  omega
theorem sumL_prefix {a b : List (List UInt8)} (h : a <+: b) : sumL a ≤ sumL b ∧ a.length ≤ b.length := by
  obtain ⟨r, rfl⟩ := h
  rw [sumL_app, List.length_append]
  omega
theorem flat_prefix {a b : List (List (List UInt8))} (h : a <+: b) : a.flatten <+: b.flatten := by
  obtain ⟨r, rfl⟩ := h
  rw [List.flatten_append]
  exact List.prefix_append _ _
theorem gap_len : ∀ (gs ws : List (List UInt8)) (j : Nat) (g : List UInt8), gs[j]? = some g → j < ws.length → sumL (comS g).flatten ≤ sumL (lineS gs ws) ∧ (comS g).flatten.length ≤ (lineS gs ws).length
  | a :: gs, b :: ws, 0, g, h, _ => by
    obtain rfl : a = g := by simpa using h
    rw [lineS, sumL_app, List.length_append]
    omega
  | a :: gs, b :: ws, j + 1, g, h, hj => by
    have := gap_len gs ws j g (by simpa using h) (by simpa using hj)
    rw [lineS, sumL_app, sumL_cons, List.length_append, List.length_cons]
    omega
  | [], _, _, _, h, _ => by simp at h
  | _ :: _, [], _, _, _, h => by simp at h
theorem part_gap {gs ws : List (List UInt8)} {j : Nat} {g : List UInt8} (h : gs[j]? = some g) (hj : j < ws.length) : sumL (comS g).flatten ≤ sumL (partQ gs ws) ∧ (comS g).flatten.length ≤ (partQ gs ws).length := by
  have := gap_len gs ws j g h hj
  cases gs with
  | nil => simp at h
  | cons a gs => cases ws with
    | nil => simp at hj
    | cons b ws => exact this
theorem o_len {D W : Int} {X : List UInt8} {gs ws : List (List UInt8)} {j : Nat} {pre : List (List (List UInt8))} (hl : gs.length = ws.length) (hw : ws ≠ []) (hp : j = 0 → pre <+: comS (gs.headD [])) : (oS (indS D) W X gs j pre).length ≤ X.length + (sumL (partQ gs ws) + (partQ gs ws).length * 1006) := by
  have h0 : gs[0]? = some (gs.headD []) := by
    cases gs with
    | nil => cases ws with
      | nil => exact absurd rfl hw
      | cons _ _ => simp at hl
    | cons _ _ => rfl
  have h1 := part_gap h0 (List.length_pos_iff.2 hw)
  have h2 : ∀ p : List (List (List UInt8)), p <+: comS (gs.headD []) → (p.flatMap (blockS (indS D) W)).length ≤ sumL (partQ gs ws) + (partQ gs ws).length * 1006 := fun p hpp => by
    have a1 := blocks_len D W p
    have a2 := sumL_prefix (flat_prefix hpp)
    omega
  unfold oS
  rw [List.length_append]
  split
  · rename_i h
    have := h2 pre (hp h)
    omega
  · have := h2 _ (List.prefix_refl (comS (gs.headD [])))
    omega
theorem b_len {gs ws : List (List UInt8)} {j : Nat} {g u : List UInt8} {pre : List (List (List UInt8))} (hl : gs.length = ws.length) (hg : gs[j]? = some g) (hu : ws[j]? = some u) (hp : pre <+: comS g) : (bS gs ws j pre).length ≤ (partQ gs ws).length ∧ sumL (bS gs ws j pre) ≤ sumL (partQ gs ws) := by
  have h1 := blk_len gs ws hl (j + 1)
  rw [blk_snoc hg hu] at h1
  have h2 := sumL_prefix (flat_prefix hp)
  rw [sumL_app, List.length_append] at h1
  unfold bS at h1 ⊢
  rw [sumL_app, List.length_append] at h1 ⊢
  split at h1 <;> rename_i hj <;> simp only [hj, if_true, if_false] at h1 ⊢ <;> omega
theorem x_len {gs ws : List (List UInt8)} {j : Nat} {g : List UInt8} {pre : List (List (List UInt8))} {x : List (List UInt8)} (hg : gs[j]? = some g) (hj : j < ws.length) (hp : pre ++ [x] <+: comS g) : x.length ≤ (partQ gs ws).length ∧ sumL x ≤ sumL (partQ gs ws) := by
  have h1 := part_gap hg hj
  have h2 := sumL_prefix (flat_prefix hp)
  rw [List.flatten_append, sumL_app, List.length_append] at h2
  simp only [List.flatten_cons, List.flatten_nil, List.append_nil] at h2
  omega
theorem o_snoc {ind : List UInt8} {W : Int} {X : List UInt8} {gs : List (List UInt8)} {pre : List (List (List UInt8))} {x : List (List UInt8)} : oS ind W X gs 0 (pre ++ [x]) = oS ind W X gs 0 pre ++ blockS ind W x := by simp [oS]
theorem b_snoc {gs ws : List (List UInt8)} {j : Nat} (hj : j ≠ 0) {pre : List (List (List UInt8))} {x : List (List UInt8)} : bS gs ws j (pre ++ [x]) = bS gs ws j pre ++ x := by simp [bS, hj]
theorem b_zero {gs ws : List (List UInt8)} {pre pre' : List (List (List UInt8))} : bS gs ws 0 pre = bS gs ws 0 pre' := by simp [bS]
theorem o_other {ind : List UInt8} {W : Int} {X : List UInt8} {gs : List (List UInt8)} {j : Nat} (hj : j ≠ 0) {pre pre' : List (List (List UInt8))} : oS ind W X gs j pre = oS ind W X gs j pre' := by simp [oS, hj]
theorem b_next {gs ws : List (List UInt8)} {j : Nat} {g w : List UInt8} (hg : gs[j]? = some g) (hw : ws[j]? = some w) : bS gs ws (j + 1) [] = bS gs ws j (comS g) ++ [w] := by
  rw [← blk_snoc hg hw]
  simp [bS]
end Go.Proofs.YtpmbfcogkoiogaaDoor
end
section
namespace Go.Proofs.YtpmbfcogkoiogaaDoor
theorem doc_facts {text : List UInt8} {d : List PartD} {tl : List UInt8} {off : Nat} (h : docS text = (d, tl, off, 0)) : (allW (d.map (·.1))).2 = 0 ∧ lensS d = true ∧ docRight d tl = true ∧ outS d ++ tl = text ∧ (toks 0 text).length ≤ 8000 := by
  have hw := read_write h
  unfold writeS at hw
  split at hw
  · rename_i h1
    exact absurd (congrArg Prod.snd hw) h1
  · rename_i h1
    split at hw
    · exact absurd (congrArg Prod.snd hw) (show ¬ ((_ : Int) = 0) by decide)
    · rename_i h2
      split at hw
      · exact absurd (congrArg Prod.snd hw) (show ¬ ((_ : Int) = 0) by decide)
      · rename_i h3
        split at hw
        · exact absurd (congrArg Prod.snd hw) (show ¬ ((_ : Int) = 0) by decide)
        · split at hw
          · exact absurd (congrArg Prod.snd hw) (show ¬ ((_ : Int) = 0) by decide)
          · rename_i h5
            have ho : outS d ++ tl = text := congrArg Prod.fst hw
            rw [ho] at h5
            exact ⟨by simpa using h1, by simpa using h2, by simpa using h3, ho, by omega⟩
theorem doc_blank {d : List PartD} {tl : List UInt8} (hr : docRight d tl = true) : (∀ x ∈ d, ∀ g ∈ x.2, blankP g = true) ∧ blankP tl = true := by
  have hr' := hr
  unfold docRight at hr'
  rw [Bool.and_eq_true] at hr'
  refine ⟨fun x hx g hg => ?_, ?_⟩
  · obtain ⟨f, h1⟩ := rightP_gap hr'.1 x hx g hg
    exact gap_blank h1
  · have h2 := hr'.2
    rw [Bool.or_eq_true, Bool.and_eq_true] at h2
    rcases h2 with h2 | h2
    · have : tl = [] := by simpa using h2
      rw [this]
      exact blank_nil
    · exact h2.1
theorem blank_asc {g : List UInt8} (h : blankP g = true) : ∀ b ∈ g, b.toNat < 128 := fun b hb => by
  have h2 := (blank_tk.1 h).1 b hb
  have key : ∀ n : Nat, n < 256 → (cls (UInt8.ofNat n).toNat != 0) = true → (UInt8.ofNat n).toNat < 128 := by decide +kernel
  have := key b.toNat b.toNat_lt
  rw [UInt8.ofNat_toNat] at this
  exact this h2
theorem inter_len : ∀ (gs : List (List (List UInt8))) (ws : List (List UInt8)), gs.length = ws.length → (interT gs ws).length = gs.flatten.length + ws.length ∧ sumL (interT gs ws) = sumL gs.flatten + sumL ws
  | [], [], _ => by simp [interT, sumL]
  | [], _ :: _, h => by simp at h
  | _ :: _, [], h => by simp at h
  | g :: gs, w :: ws, h => by
    obtain ⟨h1, h2⟩ := inter_len gs ws (by simpa using h)
    rw [interT, sumL_app, sumL_cons, List.flatten_cons, sumL_app, sumL_cons]
    simp only [List.length_append, List.length_cons]
    omega
theorem line_all : ∀ (gs ws : List (List UInt8)), gs.length = ws.length → (∀ g ∈ gs, blankP g = true) → (lineS gs ws).length = (gs.map tkS).flatten.length + ws.length ∧ sumL (lineS gs ws) = sumL (gs.map tkS).flatten + sumL ws
  | [], [], _, _ => by simp [lineS, sumL]
  | [], _ :: _, h, _ => by simp at h
  | _ :: _, [], h, _ => by simp at h
  | g :: gs, w :: ws, h, hb => by
    obtain ⟨h1, h2⟩ := line_all gs ws (by simpa using h) (fun a ha => hb a (by simp [ha]))
    rw [lineS, sumL_app, sumL_cons, List.map_cons, List.flatten_cons, sumL_app, sumL_cons, com_flat (blank_tk.1 (hb g (by simp))).2]
    simp only [List.length_append, List.length_cons]
    omega
theorem part_all (gs ws : List (List UInt8)) (h : gs.length = ws.length) (hb : ∀ g ∈ gs, blankP g = true) : (partQ gs ws).length = (gs.map tkS).flatten.length + ws.length ∧ sumL (partQ gs ws) = sumL (gs.map tkS).flatten + sumL ws := by
  have h1 := line_all gs ws h hb
  cases gs with
  | nil => cases ws with
    | nil => simp [partQ, sumL]
    | cons _ _ => simp at h
  | cons g gs => cases ws with
    | nil => simp at h
    | cons w ws => exact h1
theorem docQ_all : ∀ (d : List PartD), lensS d = true → (∀ x ∈ d, ∀ g ∈ x.2, blankP g = true) → (docQ d).length = (((d.map (·.2)).flatten).map tkS).flatten.length + ((d.map (·.1)).flatMap wordsS).length ∧ sumL (docQ d) = sumL (((d.map (·.2)).flatten).map tkS).flatten + sumL ((d.map (·.1)).flatMap wordsS)
  | [], _, _ => by simp [docQ, sumL]
  | x :: d, hl, hb => by
    have hx : x.2.length = (wordsS x.1).length := by
      have := List.all_eq_true.1 hl x (by simp)
      simpa using this
    have hd : lensS d = true := by
      unfold lensS at hl ⊢
      rw [List.all_cons, Bool.and_eq_true] at hl
      exact hl.2
    obtain ⟨h1, h2⟩ := docQ_all d hd (fun y hy => hb y (by simp [hy]))
    obtain ⟨h3, h4⟩ := part_all x.2 (wordsS x.1) hx (hb x (by simp))
    have e : docQ (x :: d) = partQ x.2 (wordsS x.1) ++ docQ d := by unfold docQ; rw [List.flatMap_cons]
    rw [e, sumL_app, List.length_append, List.map_cons, List.flatten_cons, List.map_append, List.flatten_append, sumL_app, List.length_append, List.map_cons, List.flatMap_cons, sumL_app, List.length_append]
    omega
theorem toks_sum : ∀ (n : Nat) (s : List UInt8) (k : Nat), s.length ≤ n → sumL ((toks k s).map (·.1)) ≤ s.length
  | _, [], _, _ => by rw [toks_nil]; simp [sumL]
  | 0, _ :: _, _, h => absurd h (by simp)
  | n + 1, b :: t, k, h => by
    have ht : t.length ≤ n := by simpa using h
    by_cases hb : sp b = true
    · rw [toks_sp hb]
      have := toks_sum n t (k + 1) ht
      simp only [List.length_cons]
      omega
    · rw [toks_cons (by simpa using hb), List.map_cons, sumL_cons]
      have h1 : (t.takeWhile (fun c => !sp c)).length + (t.dropWhile (fun c => !sp c)).length = t.length := by rw [← List.length_append, List.takeWhile_append_dropWhile]
      have := toks_sum n (t.dropWhile (fun c => !sp c)) (k + 1 + (t.takeWhile (fun c => !sp c)).length) (by omega)
      simp only [List.length_cons]
      omega
theorem tk_sum (s : List UInt8) : sumL (tkS s) ≤ s.length := toks_sum s.length s 0 (Nat.le_refl _)
theorem zip_gap : ∀ (gs ws : List (List UInt8)), gs.length = ws.length → ∀ g ∈ gs, g.length ≤ ((gs.zip ws).flatMap (fun p => p.1 ++ p.2)).length
  | [], _, _, g, h => by cases h
  | _ :: _, [], h, _, _ => by simp at h
  | a :: gs, w :: ws, h, g, hg => by
    rw [List.zip_cons_cons, List.flatMap_cons, List.length_append, List.length_append]
    rcases List.mem_cons.1 hg with rfl | hg
    · dsimp only; omega
    · have := zip_gap gs ws (by simpa using h) g hg
      omega
theorem out_gap {d : List PartD} (hl : lensS d = true) {x : PartD} (hx : x ∈ d) {g : List UInt8} (hg : g ∈ x.2) : g.length ≤ (outS d).length := by
  have hxl : x.2.length = (wordsS x.1).length := by
    have := List.all_eq_true.1 hl x hx
    simpa using this
  refine Nat.le_trans (zip_gap x.2 (wordsS x.1) hxl g hg) ?_
  unfold outS
  rw [List.flatMap_def]
  exact (List.sublist_flatten_of_mem (List.mem_map_of_mem (f := outP) hx)).length_le
set_option maxHeartbeats 4000000 in
theorem rw_sz {text : List UInt8} {d : List PartD} {tl : List UInt8} {off : Nat} (h : docS text = (d, tl, off, 0)) (hn : text.length ≤ 1000000) : RwSz d tl := by
  obtain ⟨ha, hl, hr, hout, h8⟩ := doc_facts h
  obtain ⟨hb1, hb2⟩ := doc_blank hr
  have hf : ∀ x ∈ d, formedS x.1 = true := fun x hx => allW_fine ha x.1 (List.mem_map_of_mem hx)
  have ht := tk_doc hf hl hr
  rw [hout] at ht
  obtain ⟨i1, i2⟩ := inter_len ((d.map (·.2)).flatten.map tkS) ((d.map (·.1)).flatMap wordsS) (by rw [List.length_map]; exact lens_flat d hl)
  obtain ⟨q1, q2⟩ := docQ_all d hl hb1
  have hts := tk_sum text
  have htn : (tkS text).length ≤ 8000 := by unfold tkS; rw [List.length_map]; exact h8
  rw [ht, sumL_app] at hts
  rw [ht, List.length_append] at htn
  have hcf : (comS tl).flatten = tkS tl := com_flat (blank_tk.1 hb2).2
  have hol : (outS d).length + tl.length = text.length := by rw [← hout, List.length_append]
  have hdl : ∀ l : List PartD, l.length ≤ ((l.map (·.1)).flatMap wordsS).length := fun l => by
    induction l with
    | nil => simp
    | cons x l ih =>
      have := words_pos x.1
      rw [List.map_cons, List.flatMap_cons, List.length_append, List.length_cons]
      omega
  have hd := hdl d
  refine ⟨by omega, fun x hx => ⟨formed_kind (hf x hx), ?_⟩, fun x hx g hg => ⟨by have := out_gap hl hx hg; omega, blank_asc (hb1 x hx g hg)⟩, ⟨by omega, blank_asc hb2⟩, hl, ?_, ?_⟩
  · have hm : (wordsS x.1).length ≤ ((d.map (·.1)).flatMap wordsS).length := by
      rw [List.flatMap_def]
      exact (List.sublist_flatten_of_mem (List.mem_map_of_mem (f := wordsS) (List.mem_map_of_mem (f := (·.1)) hx))).length_le
    have hx1 := hf x hx
    rw [formedS_eq] at hx1
    unfold okLen at hx1
    simp only [Bool.and_eq_true, Bool.or_eq_true, beq_iff_eq, decide_eq_true_eq] at hx1
    have hpf := hx1.1.1.2.2
    have hw : x.1.text.length ≤ (wordsS x.1).length ∧ (x.1.kind = 7 → x.1.proof.length ≤ (wordsS x.1).length) := by
      unfold wordsS
      simp only [List.length_append]
      refine ⟨by omega, fun e => ?_⟩
      rw [if_pos e]
      simp only [List.length_cons]
      omega
    refine ⟨by omega, ?_⟩
    rcases hpf with e | e
    · have := hw.2 e
      omega
    · rw [e]
      simp
  · rw [hcf, List.length_append]
    omega
  · rw [hcf, sumL_app]
    omega
end Go.Proofs.YtpmbfcogkoiogaaDoor
end
