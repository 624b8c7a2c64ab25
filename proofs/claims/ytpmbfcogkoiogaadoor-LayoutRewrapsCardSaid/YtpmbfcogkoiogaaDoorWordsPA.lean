/- Layout: the words of well-formed statements are read as these statements. Layout: the text of a document. Layout: the text of a document that was read is the text. Layout: Write of Read is the text, in plain terms. -/
import Derived.Test.YtpmbfcogkoiogaaDoorDocPA
import Derived.Test.YtpmbfcogkoiogaaDoorRightA
section
namespace Go.Proofs.YtpmbfcogkoiogaaDoor
theorem only_no_kw {w : List UInt8} {l : List Nat} (h : onlyS w l) (h4 : 4 ∉ l) : w ∉ kwL ∧ w ∉ kindL ∧ w ≠ [36, 46] ∧ w ≠ [36, 61] := by
  have hd : 36 ∉ w := fun hm => by
    have := h.2.2 36 hm
    rw [show cls (36 : UInt8).toNat = 4 by decide] at this
    exact h4 this
  have h1 : ∀ u ∈ kwL, 36 ∈ u := by decide
  have h2 : ∀ u ∈ kindL, 36 ∈ u := by decide
  exact ⟨fun hm => hd (h1 w hm), fun hm => hd (h2 w hm), fun e => hd (by rw [e]; decide), fun e => hd (by rw [e]; decide)⟩
theorem prf_no_kw {w : List UInt8} (h : prfS w = true) : w ∉ kwL ∧ w ≠ [36, 46] := by
  unfold prfS at h
  simp only [Bool.or_eq_true, Bool.and_eq_true, beq_iff_eq] at h
  rcases h with (h | h) | h
  · subst h; decide
  · subst h; decide
  · have hd : 36 ∉ w := fun hm => by
      have := List.all_eq_true.1 h.2 36 hm
      revert this
      decide
    have h1 : ∀ u ∈ kwL, 36 ∈ u := by decide
    exact ⟨fun hm => hd (h1 w hm), fun e => hd (by rw [e]; decide)⟩
theorem kindS_kwOf {k : Int} (h : 1 ≤ k ∧ k ≤ 9) : (kindS (kwOf k) : Int) = k := by
  obtain ⟨n, rfl⟩ : ∃ n : Nat, k = n := ⟨k.toNat, by omega⟩
  have h1 : ∀ n : Nat, n < 10 → 1 ≤ n → kindS (kwN n) = n := by decide +kernel
  show ((kindS (kwN n) : Nat) : Int) = n
  rw [h1 n (by omega) (by omega)]
theorem prun_inl {at_ : Nat} {s t : PSt} {w : List UInt8} {r : List (List UInt8)} {i : Nat} (h : pstep s w = .inl t) : prun at_ s i (w :: r) = prun at_ t (i + 1) r := by rw [prun, h]
theorem prun_fin {at_ : Nat} {s : PSt} {x : StmD} {w : List UInt8} {r : List (List UInt8)} {i : Nat} (h : pstep s w = .inr (.inl x)) : prun at_ s i (w :: r) = .inl (x, i + 1) := by rw [prun, h]
/-- through the symbols -/
theorem prun_text {at_ : Nat} {k : Int} {l : List UInt8} : ∀ (tx ty : List (List UInt8)) (i : Nat) (r : List (List UInt8)), (∀ w ∈ tx, onlyS w [2, 3]) → ty.length + tx.length ≤ mostS k → prun at_ (.text ⟨k, l, ty, []⟩) i (tx ++ r) = prun at_ (.text ⟨k, l, ty ++ tx, []⟩) (i + tx.length) r
  | [], ty, i, r, _, _ => by simp
  | w :: tx, ty, i, r, hw, hl => by
    have h1 := hw w (by simp)
    obtain ⟨n1, n2, n3, n4⟩ := only_no_kw h1 (by decide)
    have hs : pstep (.text ⟨k, l, ty, []⟩) w = .inl (.text ⟨k, l, ty ++ [w], []⟩) := by
      simp only [pstep]
      rw [if_neg (by simp [n3, n4]), if_neg (by unfold isKw; simp [n1]), if_pos h1, if_neg (by simp at hl; omega)]
    rw [List.cons_append, prun_inl hs, prun_text tx (ty ++ [w]) (i + 1) r (fun u hu => hw u (by simp [hu])) (by simp at hl ⊢; omega)]
    simp [Nat.add_assoc, Nat.add_comm 1]
/-- through the proof -/
theorem prun_proof {at_ : Nat} {k : Int} {l : List UInt8} {tx : List (List UInt8)} : ∀ (px py : List (List UInt8)) (i : Nat) (r : List (List UInt8)), (∀ w ∈ px, prfS w = true) → prun at_ (.proof ⟨k, l, tx, py⟩) i (px ++ r) = prun at_ (.proof ⟨k, l, tx, py ++ px⟩) (i + px.length) r
  | [], py, i, r, _ => by simp
  | w :: px, py, i, r, hw => by
    have h1 := hw w (by simp)
    obtain ⟨n1, n2⟩ := prf_no_kw h1
    have hs : pstep (.proof ⟨k, l, tx, py⟩) w = .inl (.proof ⟨k, l, tx, py ++ [w]⟩) := by
      simp only [pstep]
      rw [if_neg n2, if_neg (by unfold isKw; simp [n1]), if_pos h1]
    rw [List.cons_append, prun_inl hs, prun_proof px (py ++ [w]) (i + 1) r (fun u hu => hw u (by simp [hu]))]
    simp [Nat.add_assoc, Nat.add_comm 1]
/-- a statement's words are read as it -/
theorem prun_words_ok {at_ : Nat} {x : StmD} (h : formedS x = true) (i : Nat) (r : List (List UInt8)) : prun at_ .begin i (wordsS x ++ r) = .inl (x, i + (wordsS x).length) := by
  obtain ⟨hk, hmost, h7⟩ := formed_parts h
  have h0 := h
  unfold formedS at h0
  simp only [Bool.and_eq_true] at h0
  obtain ⟨⟨⟨⟨⟨_, hl⟩, hlen⟩, ht⟩, hp⟩, _⟩ := h0
  have hleast := (of_decide_eq_true hlen).1
  have ht' : ∀ w ∈ x.text, onlyS w [2, 3] := fun w hw => of_decide_eq_true (List.all_eq_true.1 ht w hw)
  have hp' := List.all_eq_true.1 hp
  obtain ⟨k, l, tx, px⟩ := x
  dsimp only at hk hmost h7 hl hleast ht' hp'
  have hkk := kindS_kwOf hk
  have hk0 : kindS (kwOf k) ≠ 0 := by omega
  have tail : ∀ (i : Nat), mostS k ≠ 0 → prun at_ (.text ⟨k, l, [], []⟩) i (tx ++ ((if k = 7 then [36, 61] :: px else []) ++ ([[36, 46]] ++ r))) = .inl (⟨k, l, tx, px⟩, i + (tx.length + ((if k = 7 then px.length + 1 else 0) + 1))) := fun i hm => by
    rw [prun_text tx [] i _ ht' (by simpa using hmost), List.nil_append]
    by_cases hk7 : k = 7
    · rw [if_pos hk7, if_pos hk7]
      have hs : pstep (.text ⟨k, l, tx, []⟩) [36, 61] = .inl (.proof ⟨k, l, tx, []⟩) := by
        unfold pstep
        dsimp only
        rw [if_pos (.inr ⟨rfl, hk7⟩), if_neg (by omega), if_pos rfl]
      rw [List.cons_append, prun_inl hs, prun_proof px [] _ _ hp', List.nil_append]
      have hf : pstep (.proof ⟨k, l, tx, px⟩) [36, 46] = .inr (.inl ⟨k, l, tx, px⟩) := by unfold pstep; dsimp only; rw [if_pos rfl]
      rw [List.singleton_append, prun_fin hf]
      congr 2
      omega
    · rw [if_neg hk7, if_neg hk7, List.nil_append]
      obtain rfl : px = [] := h7.resolve_left hk7
      have hf : pstep (.text ⟨k, l, tx, []⟩) [36, 46] = .inr (.inl ⟨k, l, tx, []⟩) := by
        unfold pstep
        dsimp only
        rw [if_pos (.inl rfl), if_neg (by omega), if_neg (by decide), if_neg hk7]
      rw [List.singleton_append, prun_fin hf]
      congr 2
  unfold wordsS
  dsimp only
  by_cases hlab : labS k = true
  · rw [if_pos hlab] at hl ⊢
    have ho : onlyS l [2] := of_decide_eq_true hl
    obtain ⟨n1, n2, n3, n4⟩ := only_no_kw ho (by decide)
    have hm : mostS k ≠ 0 := most_lab hlab
    have s1 : pstep .begin l = .inl (.key l) := by
      simp only [pstep]
      rw [if_neg (by unfold kindS; rw [if_neg n2]; simp), if_neg (by unfold isKw; simp [n1]), if_pos ho]
    have s2 : pstep (.key l) (kwOf k) = .inl (.text ⟨k, l, [], []⟩) := by
      simp only [pstep]
      rw [if_neg hk0, hkk, if_pos hlab]
    rw [if_neg hm]
    have e : ([l] ++ [kwOf k] ++ tx ++ (if k = 7 then [36, 61] :: px else []) ++ [[36, 46]]) ++ r = l :: kwOf k :: (tx ++ ((if k = 7 then [36, 61] :: px else []) ++ ([[36, 46]] ++ r))) := by simp
    rw [e, prun_inl s1, prun_inl s2, tail _ hm]
    congr 2
    split <;> simp <;> omega
  · rw [if_neg hlab] at hl ⊢
    obtain rfl : l = [] := by simpa using hl
    have hk7 : k ≠ 7 := fun e => hlab (by rw [e]; rfl)
    obtain rfl : px = [] := h7.resolve_left hk7
    by_cases hm : mostS k = 0
    · obtain rfl : tx = [] := List.eq_nil_of_length_eq_zero (by omega)
      have s1 : pstep .begin (kwOf k) = .inr (.inl ⟨k, [], [], []⟩) := by
        simp only [pstep]
        rw [if_pos hk0, hkk, if_neg hlab, if_pos hm]
      rw [if_pos hm, if_neg hk7]
      simp only [List.nil_append, List.append_nil, List.singleton_append]
      rw [prun_fin s1]
      rfl
    · have s1 : pstep .begin (kwOf k) = .inl (.text ⟨k, [], [], []⟩) := by
        simp only [pstep]
        rw [if_pos hk0, hkk, if_neg hlab, if_neg hm]
      rw [if_neg hm]
      have e : ([] ++ [kwOf k] ++ tx ++ (if k = 7 then [36, 61] :: [] else []) ++ [[36, 46]]) ++ r = kwOf k :: (tx ++ ((if k = 7 then [36, 61] :: ([] : List (List UInt8)) else []) ++ ([[36, 46]] ++ r))) := by simp
      rw [e, prun_inl s1, tail _ hm]
      congr 2
      split <;> simp <;> omega
theorem wordsS_pos (x : StmD) : 0 < (wordsS x).length := by
  unfold wordsS
  simp only [List.length_append, List.length_cons, List.length_nil]
  omega
theorem parseF_words_ok : ∀ (l : List StmD) (f : Nat) (pre : List (List UInt8)) (out : List StmD), (∀ x ∈ l, formedS x = true) → l.length < f → out.length + l.length ≤ 2000 → parseF (pre ++ l.flatMap wordsS) f pre.length out = (out ++ l, 0, 0)
  | [], f + 1, pre, out, _, _, _ => by
    rw [parseF, if_pos (by simp)]
    simp
  | x :: l, f + 1, pre, out, hf, hl, ho => by
    have hx := hf x (by simp)
    have hpos := wordsS_pos x
    rw [parseF, if_neg (by rw [List.length_append, List.flatMap_cons, List.length_append]; omega), if_neg (by simp at ho; omega)]
    have hr : readW (pre ++ (x :: l).flatMap wordsS) pre.length = .inl (x, pre.length + (wordsS x).length) := by
      unfold readW
      rw [List.drop_left, List.flatMap_cons]
      exact prun_words_ok hx _ _
    rw [hr]
    dsimp only
    have h2 := parseF_words_ok l f (pre ++ wordsS x) (out ++ [x]) (fun y hy => hf y (by simp [hy])) (by simp at hl; omega) (by simp at ho ⊢; omega)
    rw [List.length_append] at h2
    rw [List.flatMap_cons, ← List.append_assoc, h2]
    simp
theorem words_parse {l : List StmD} (hf : ∀ x ∈ l, formedS x = true) (h2 : l.length ≤ 2000) (h8 : (l.flatMap wordsS).length ≤ 8000) : parseS (l.flatMap wordsS) = (l, 0, 0) := by
  unfold parseS
  rw [if_neg (by omega)]
  have hn : l.length ≤ (l.flatMap wordsS).length := by
    clear hf h2 h8
    induction l with
    | nil => exact Nat.zero_le _
    | cons x r ih =>
      have := wordsS_pos x
      rw [List.flatMap_cons, List.length_append, List.length_cons]
      omega
  have h := parseF_words_ok l ((l.flatMap wordsS).length + 1) [] [] hf (by omega) (by simpa using h2)
  simpa using h
end Go.Proofs.YtpmbfcogkoiogaaDoor
end
section
namespace Go.Proofs.YtpmbfcogkoiogaaDoor
/-- a part's text -/
def outP (x : PartD) : List UInt8 := (x.2.zip (wordsS x.1)).flatMap fun p => p.1 ++ p.2
def outS (d : List PartD) : List UInt8 := d.flatMap outP
/-- the gaps are as many as the words -/
def lensS (d : List PartD) : Bool := d.all fun x => x.2.length == (wordsS x.1).length
def writeS (d : List PartD) (tl : List UInt8) : List UInt8 × Int :=
  if (allW (d.map (·.1))).2 ≠ 0 then ([], (allW (d.map (·.1))).2)
  else if lensS d = false then ([], 4)
  else if docRight d tl = false then ([], 2)
  else if 40000 < (outS d ++ tl).length then ([], 15)
  else if 8000 < (toks 0 (outS d ++ tl)).length then ([], 8)
  else (outS d ++ tl, 0)
theorem byte_of_cls {b : UInt8} {l : List Nat} (h : cls b.toNat ∈ l) (h0 : 0 ∉ l) : byteB b = true := by
  unfold byteB
  simp only [bne_iff_ne, ne_eq]
  intro e
  rw [e] at h
  exact h0 h
theorem only_byte {s : List UInt8} {l : List Nat} (h : onlyS s l) (h0 : 0 ∉ l) : ∀ b ∈ s, byteB b = true := fun b hb => byte_of_cls (h.2.2 b hb) h0
theorem prf_byte {s : List UInt8} (h : prfS s = true) : ∀ b ∈ s, byteB b = true := fun b hb => by
  unfold prfS at h
  simp only [Bool.or_eq_true, Bool.and_eq_true, beq_iff_eq] at h
  rcases h with (h | h) | h
  · subst h; simp at hb; subst hb; decide
  · subst h; simp at hb; subst hb; decide
  · have := List.all_eq_true.1 h.2 b hb
    unfold prfB at this
    simp only [Bool.or_eq_true, beq_iff_eq] at this
    rcases this with h1 | h1
    · unfold byteB; rw [h1]; rfl
    · subst h1; decide
theorem kw_byte {k : Int} (h : 1 ≤ k ∧ k ≤ 9) : ∀ b ∈ kwOf k, byteB b = true := by
  obtain ⟨n, rfl⟩ : ∃ n : Nat, k = n := ⟨k.toNat, by omega⟩
  have h1 : ∀ n : Nat, n < 10 → ∀ b ∈ kwN n, byteB b = true := by decide +kernel
  exact h1 n (by omega)
/-- the bytes of a well-formed statement's words -/
theorem words_byte {x : StmD} (h : formedS x = true) : ∀ u ∈ wordsS x, ∀ b ∈ u, byteB b = true := by
  obtain ⟨hk, _, h7⟩ := formed_parts h
  unfold formedS at h
  simp only [Bool.and_eq_true] at h
  obtain ⟨⟨⟨⟨⟨_, hl⟩, _⟩, ht⟩, hp⟩, _⟩ := h
  intro u hu
  unfold wordsS at hu
  simp only [List.mem_append] at hu
  rcases hu with (((hu | hu) | hu) | hu) | hu
  · by_cases hlab : labS x.kind = true
    · rw [if_pos hlab] at hu hl
      simp at hu
      subst hu
      exact only_byte (of_decide_eq_true hl) (by decide)
    · rw [if_neg hlab] at hu; cases hu
  · simp at hu
    subst hu
    exact kw_byte hk
  · have := List.all_eq_true.1 ht u hu
    exact only_byte (of_decide_eq_true this) (by decide)
  · split at hu
    · rcases List.mem_cons.1 hu with rfl | hu
      · decide
      · exact prf_byte (List.all_eq_true.1 hp u hu)
    · cases hu
  · split at hu
    · cases hu
    · simp at hu
      subst hu
      decide
theorem gap_byte {first : Bool} {g : List UInt8} (h : gapOk first g = true) : ∀ b ∈ g, byteB b = true := by
  unfold gapOk at h
  split at h
  · rename_i h1
    simp at h1
    rw [h1.2]
    intro b hb
    cases hb
  · simp only [Bool.and_eq_true] at h
    have h1 := h.1.1
    unfold blankP at h1
    simp only [Bool.and_eq_true] at h1
    exact List.all_eq_true.1 h1.1
theorem rightG_gap {first : Bool} {gs : List (List UInt8)} (h : rightG first gs = true) : ∀ g ∈ gs, ∃ f, gapOk f g = true := by
  cases gs with
  | nil => intro g hg; cases hg
  | cons a r =>
    rw [rightG, Bool.and_eq_true] at h
    intro g hg
    rcases List.mem_cons.1 hg with rfl | hg
    · exact ⟨_, h.1⟩
    · exact ⟨false, List.all_eq_true.1 h.2 g hg⟩
theorem rightP_gap : ∀ {first : Bool} {d : List PartD}, rightP first d = true → ∀ x ∈ d, ∀ g ∈ x.2, ∃ f, gapOk f g = true
  | _, [], _, x, hx => by cases hx
  | first, y :: r, h, x, hx => by
    rw [rightP, Bool.and_eq_true] at h
    rcases List.mem_cons.1 hx with rfl | hx
    · exact rightG_gap h.1
    · exact rightP_gap h.2 x hx
theorem out_byte {d : List PartD} {tl : List UInt8} (hf : ∀ x ∈ d, formedS x.1 = true) (hr : docRight d tl = true) : ∀ b ∈ outS d ++ tl, byteB b = true := by
  unfold docRight at hr
  rw [Bool.and_eq_true] at hr
  intro b hb
  rcases List.mem_append.1 hb with hb | hb
  · obtain ⟨x, hx, hb⟩ := List.mem_flatMap.1 hb
    obtain ⟨p, hp, hb⟩ := List.mem_flatMap.1 hb
    have h1 := List.of_mem_zip hp
    rcases List.mem_append.1 hb with hb | hb
    · obtain ⟨f, h2⟩ := rightP_gap hr.1 x hx _ h1.1
      exact gap_byte h2 b hb
    · exact words_byte (hf x hx) _ h1.2 b hb
  · have h2 := hr.2
    rw [Bool.or_eq_true, Bool.and_eq_true] at h2
    rcases h2 with h2 | h2
    · have : tl = [] := by simpa using h2
      rw [this] at hb
      cases hb
    · have h1 := h2.1
      unfold blankP at h1
      simp only [Bool.and_eq_true] at h1
      exact List.all_eq_true.1 h1.1 b hb
theorem byte_ascii {b : UInt8} (h : byteB b = true) : b.toNat < 128 := by
  have h3 : ∀ n : Nat, n < 256 → (cls n != 0) = true → n < 128 := by decide +kernel
  exact h3 _ b.toNat_lt h
end Go.Proofs.YtpmbfcogkoiogaaDoor
end
section
namespace Go.Proofs.YtpmbfcogkoiogaaDoor
theorem parseF_len {ws : List (List UInt8)} : ∀ (f i : Nat) (out : List StmD) {l : List StmD} {k : Nat}, out.length ≤ 2000 → parseF ws f i out = (l, k, 0) → l.length ≤ 2000
  | 0, i, out, l, k, _, h => by rw [parseF] at h; cases h; exact Nat.zero_le _
  | f + 1, i, out, l, k, ho, h => by
    rw [parseF] at h
    split at h
    · cases h; exact ho
    · split at h
      · cases h
      · rename_i hne
        split at h
        · rename_i e he
          exact absurd (congrArg (fun q => q.2.2) h) (prun_err _ _ _ he)
        · exact parseF_len f _ _ (by simp; omega) h
theorem parse_allW {ws : List (List UInt8)} {l : List StmD} {k : Nat} (h : parseS ws = (l, k, 0)) : allW l = (ws, 0) := by
  have h1 := parse_words h
  have h2 : l.all formedS = true := List.all_eq_true.2 (parse_formed h)
  have h3 : l.length ≤ 2000 ∧ ws.length ≤ 8000 := by
    unfold parseS at h
    split at h
    · cases h
    · exact ⟨parseF_len _ _ _ (Nat.zero_le _) h, by omega⟩
  unfold allW
  rw [if_neg (by omega), if_pos h2, if_neg (by rw [h1]; omega), h1]
/-- a list of tokens cut at one -/
theorem toks_cut : ∀ (n : Nat) (s : List UInt8), s.length ≤ n → ∀ (k : Nat) (T1 : List TokD) (t : TokD) (T2 : List TokD), toks k s = T1 ++ t :: T2 →
    ∃ g r, s = g ++ (t.1 ++ r) ∧ t.2 = k + g.length ∧ toks k g = T1 ∧ toks (k + g.length + t.1.length) r = T2 ∧ (g = [] ∨ lastW? g = true) ∧ (r = [] ∨ headW? r = true) ∧ (∀ b, t.1.head? = some b → sp b = false) ∧ t.1 ≠ []
  | 0, s, hs, k, T1, t, T2, h => by
    obtain rfl : s = [] := List.eq_nil_of_length_eq_zero (by omega)
    rw [toks_nil] at h
    simp at h
  | n + 1, s, hs, k, T1, t, T2, h => by
    match s, hs, h with
    | [], _, h => rw [toks_nil] at h; simp at h
    | b :: s, hs, h =>
      by_cases hb : sp b = true
      · rw [toks_sp hb] at h
        obtain ⟨g, r, h1, h2, h3, h4, h5, h6, h7, h8⟩ := toks_cut n s (by simpa using hs) (k + 1) T1 t T2 h
        refine ⟨b :: g, r, by rw [h1]; rfl, by rw [h2]; simp; omega, by rw [toks_sp hb, h3], by rw [← h4]; congr 1; simp; omega, .inr ?_, h6, h7, h8⟩
        rcases h5 with rfl | h5
        · simpa [lastW?] using hb
        · unfold lastW? at h5 ⊢
          cases g with
          | nil => simp at h5
          | cons c g => simpa [List.getLast?_cons_cons] using h5
      · have hb' : sp b = false := by simpa using hb
        rw [toks_cons hb'] at h
        have hrest : ∀ c, (s.dropWhile fun c => !sp c).head? = some c → sp c = true := fun c hc => by
          have := List.head?_dropWhile_not (p := fun c => !sp c) (l := s)
          rw [hc] at this
          simpa using this
        have hhead : (s.dropWhile fun c => !sp c) = [] ∨ headW? (s.dropWhile fun c => !sp c) = true := by
          cases hd : s.dropWhile (fun c => !sp c) with
          | nil => exact .inl rfl
          | cons c r => exact .inr (hrest c (by rw [hd]; rfl))
        match T1, h with
        | [], h =>
          simp only [List.nil_append, List.cons.injEq] at h
          obtain ⟨rfl, h2⟩ := h
          refine ⟨[], s.dropWhile (fun c => !sp c), ?_, by simp, toks_nil k, ?_, .inl rfl, hhead, fun c hc => ?_, by simp⟩
          · dsimp only
            rw [List.nil_append, List.cons_append, List.takeWhile_append_dropWhile]
          · rw [← h2]; congr 1; simp; omega
          · simp at hc; subst hc; exact hb'
        | t0 :: T1, h =>
          simp only [List.cons_append, List.cons.injEq] at h
          obtain ⟨rfl, h2⟩ := h
          have hlen : (s.dropWhile fun c => !sp c).length ≤ n := by
            have := (List.dropWhile_sublist (fun c => !sp c) (l := s)).length_le
            simp at hs
            omega
          obtain ⟨g, r, q1, q2, q3, q4, q5, q6, q7, q8⟩ := toks_cut n _ hlen _ T1 t T2 h2
          have hgne : g ≠ [] := fun e => by
            subst e
            rw [List.nil_append] at q1
            obtain ⟨c, u, hcu⟩ : ∃ c u, t.1 = c :: u := List.exists_cons_of_ne_nil q8
            have h3 := q7 c (by rw [hcu]; rfl)
            have h4 := hrest c (by rw [q1, hcu]; rfl)
            rw [h3] at h4
            cases h4
          have hgh : ∀ c, g.head? = some c → sp c = true := fun c hc => hrest c (by
            rw [q1]
            cases g with
            | nil => exact absurd rfl hgne
            | cons d g => simpa using hc)
          refine ⟨(b :: s.takeWhile fun c => !sp c) ++ g, r, ?_, ?_, ?_, ?_, .inr ?_, q6, q7, q8⟩
          · rw [List.append_assoc, ← q1, List.cons_append, List.takeWhile_append_dropWhile]
          · rw [q2]; simp; omega
          · rw [List.cons_append, toks_cons hb']
            have hall : ∀ c ∈ s.takeWhile (fun c => !sp c), (!sp c) = true := fun c hc => List.all_eq_true.1 (List.all_takeWhile (p := fun c => !sp c) (l := s)) c hc
            have e1 : (s.takeWhile (fun c => !sp c) ++ g).takeWhile (fun c => !sp c) = s.takeWhile (fun c => !sp c) := by
              rw [List.takeWhile_append_of_pos hall]
              cases g with
              | nil => simp
              | cons c g => rw [List.takeWhile_cons_of_neg (by simp [hgh c rfl])]; simp
            have e2 : (s.takeWhile (fun c => !sp c) ++ g).dropWhile (fun c => !sp c) = g := by
              rw [List.dropWhile_append_of_pos hall]
              cases g with
              | nil => rfl
              | cons c g => rw [List.dropWhile_cons_of_neg (by simp [hgh c rfl])]
            rw [e1, e2, q3]
          · rw [← q4]; congr 1; simp; omega
          · rcases q5 with rfl | q5
            · exact absurd rfl hgne
            · unfold lastW? at q5 ⊢
              rw [List.getLast?_append]
              cases hg : g.getLast? with
              | none => exact absurd (List.getLast?_eq_none_iff.1 hg) hgne
              | some c => rw [hg] at q5; exact q5
/-- the run of the strip up to the next word -/
theorem srun_next {text : List UInt8} {t : TokD} {W2 : List TokD} {C : List ComD} : ∀ (T : List TokD) (W0 : List TokD) (c : List ComD) (o : Option Nat), srun text (W0, c, o) T = .inl (W0 ++ t :: W2, C, none) →
    ∃ T1 T2 c1, T = T1 ++ t :: T2 ∧ srun text (W0, c, o) T1 = .inl (W0, c1, none) ∧ srun text (W0 ++ [t], c1, none) T2 = .inl (W0 ++ t :: W2, C, none)
  | [], W0, c, o, h => by
    simp [srun] at h
  | u :: T, W0, c, o, h => by
    have h0 := h
    rw [srun] at h
    split at h
    · cases h
    · rename_i y hy
      have hy0 := hy
      unfold sstep at hy
      have step : ∀ c' o', y = (W0, c', o') → ∃ T1 T2 c1, u :: T = T1 ++ t :: T2 ∧ srun text (W0, c, o) T1 = .inl (W0, c1, none) ∧ srun text (W0 ++ [t], c1, none) T2 = .inl (W0 ++ t :: W2, C, none) := fun c' o' e => by
        subst e
        obtain ⟨T1, T2, c1, e1, e2, e3⟩ := srun_next T W0 c' o' h
        refine ⟨u :: T1, T2, c1, by rw [e1]; rfl, ?_, e3⟩
        rw [srun, hy0]
        exact e2
      split at hy
      · cases hy
      · split at hy
        · cases o <;> simp at hy
          exact step _ _ hy.symm
        · split at hy
          · cases o <;> simp at hy
            exact step _ _ hy.symm
          · cases o with
            | some a =>
              simp at hy
              exact step _ _ hy.symm
            | none =>
              simp at hy
              subst hy
              obtain ⟨r, e1, _⟩ := srun_sub T _ _ h
              have e2 : t = u := by
                have := congrArg (fun l => l[W0.length]?) e1
                simpa using this
              subst e2
              exact ⟨[], T, c, rfl, rfl, h⟩
/-- the run of the strip over comments alone -/
theorem srun_brun {text : List UInt8} {W0 : List TokD} : ∀ (T : List TokD) (c : List ComD) (o : Option Nat) {C : List ComD} {o' : Option Nat}, srun text (W0, c, o) T = .inl (W0, C, o') → brun o.isSome (T.map (·.1)) = some o'.isSome
  | [], c, o, C, o', h => by
    simp [srun] at h
    rw [h.2]
    rfl
  | t :: T, c, o, C, o', h => by
    rw [srun] at h
    split at h
    · cases h
    · rename_i y hy
      unfold sstep at hy
      rw [List.map_cons, brun]
      split at hy
      · cases hy
      · rename_i hlen
        split at hy
        · rename_i h1
          cases o <;> simp at hy
          subst hy
          rw [if_pos (.inl ⟨h1, rfl⟩)]
          exact srun_brun T _ _ h
        · rename_i h1
          split at hy
          · rename_i h2
            cases o <;> simp at hy
            subst hy
            rw [if_pos (.inr ⟨h2, rfl⟩)]
            exact srun_brun T _ _ h
          · rename_i h2
            cases o with
            | none =>
              simp at hy
              subst hy
              obtain ⟨r, e1, _⟩ := srun_sub T _ _ h
              have := congrArg List.length e1
              simp at this
            | some a =>
              simp at hy
              subst hy
              have h3 : ¬ hasC t.1 = true := fun hc => by
                rcases Nat.lt_or_ge 2 t.1.length with h4 | h4
                · exact hlen ⟨h4, hc⟩
                · rcases hasC_two hc h4 with h5 | h5
                  · exact h1 h5
                  · exact h2 h5
              rw [if_neg (by simp [h1, h2]), if_neg (by simp [h3])]
              exact srun_brun T _ _ h
end Go.Proofs.YtpmbfcogkoiogaaDoor
end
section
namespace Go.Proofs.YtpmbfcogkoiogaaDoor
theorem toks_shift : ∀ (n : Nat) (s : List UInt8), s.length ≤ n → ∀ k m : Nat, (toks k s).map (·.1) = (toks m s).map (·.1)
  | 0, s, hs, k, m => by
    obtain rfl : s = [] := List.eq_nil_of_length_eq_zero (by omega)
    rw [toks_nil, toks_nil]
  | n + 1, s, hs, k, m => by
    match s, hs with
    | [], _ => rw [toks_nil, toks_nil]
    | b :: s, hs =>
      by_cases hb : sp b = true
      · rw [toks_sp hb, toks_sp hb]
        exact toks_shift n s (by simpa using hs) _ _
      · have hb' : sp b = false := by simpa using hb
        rw [toks_cons hb', toks_cons hb', List.map_cons, List.map_cons]
        have hlen : (s.dropWhile fun c => !sp c).length ≤ n := by
          have := (List.dropWhile_sublist (fun c => !sp c) (l := s)).length_le
          simp at hs
          omega
        rw [toks_shift n _ hlen _ (m + 1 + (s.takeWhile fun c => !sp c).length)]
/-- gaps as they must be; the last is the tail -/
def gapsFine (first : Bool) : List (List UInt8) → Prop
  | [] => True
  | [tl] => tl = [] ∨ blankP tl = true ∧ (first = true ∨ headW? tl = true)
  | g :: g' :: r => gapOk first g = true ∧ gapsFine false (g' :: r)
/-- gaps and words in turn -/
def interL : List (List UInt8) → List (List UInt8) → List UInt8
  | g :: gs, w :: ws => g ++ (w ++ interL gs ws)
  | g :: _, [] => g
  | [], _ => []
theorem blank_of {s : List UInt8} {k : Nat} (hb : s.all byteB = true) (h : brun false ((toks k s).map (·.1)) = some false) : blankP s = true := by
  unfold blankP
  rw [hb, toks_shift s.length s (Nat.le_refl _) 0 k, h]
  rfl
theorem head_append {g s : List UInt8} (hg : g ≠ []) : headW? (g ++ s) = headW? g := by
  cases g with
  | nil => exact absurd rfl hg
  | cons a g => rfl
theorem gaps_fine {text : List UInt8} (hall : text.all byteB = true) {C : List ComD} : ∀ (W1 : List TokD) (k : Nat) (W0 : List TokD) (c : List ComD) (first : Bool), k ≤ text.length → srun text (W0, c, none) (toks k (text.drop k)) = .inl (W0 ++ W1, C, none) → (first = true ∨ text.drop k = [] ∨ headW? (text.drop k) = true) →
    gapsFine first (gapsF text k W1) ∧ interL (gapsF text k W1) (W1.map (·.1)) = text.drop k
  | [], k, W0, c, first, hk, h, hd => by
    rw [List.append_nil] at h
    have hb : (text.drop k).all byteB = true := List.all_eq_true.2 fun b hb => List.all_eq_true.1 hall b (List.mem_of_mem_drop hb)
    have h1 := blank_of hb (srun_brun _ _ _ h)
    refine ⟨?_, rfl⟩
    rw [gapsF, gapsFine]
    rcases hd with hd | hd | hd
    · exact .inr ⟨h1, .inl hd⟩
    · exact .inl hd
    · exact .inr ⟨h1, .inr hd⟩
  | t :: W2, k, W0, c, first, hk, h, hd => by
    obtain ⟨T1, T2, c1, e1, e2, e3⟩ := srun_next _ W0 c none h
    obtain ⟨g, r, q1, q2, q3, q4, q5, q6, q7, q8⟩ := toks_cut _ _ (Nat.le_refl _) k T1 t T2 e1
    have hlen : text.length = k + (g.length + (t.1.length + r.length)) := by
      have := congrArg List.length q1
      simp at this
      omega
    have hg : (text.take t.2).drop k = g := by
      rw [List.drop_take, q1, show t.2 - k = g.length by omega, List.take_left]
    have hr : text.drop (t.2 + t.1.length) = r := by
      rw [show t.2 + t.1.length = k + (g.length + t.1.length) by omega, ← List.drop_drop, q1, ← List.append_assoc, List.drop_left' (by simp)]
    have hgb : g.all byteB = true := List.all_eq_true.2 fun b hb => List.all_eq_true.1 hall b (by
      have : b ∈ text.drop k := by rw [q1]; exact List.mem_append_left _ hb
      exact List.mem_of_mem_drop this)
    have hbl : blankP g = true := blank_of (k := k) hgb (by rw [q3]; exact srun_brun _ _ _ e2)
    obtain ⟨i1, i2⟩ := gaps_fine hall W2 (t.2 + t.1.length) (W0 ++ [t]) c1 false (by omega) (by
      rw [hr, show t.2 + t.1.length = k + g.length + t.1.length by omega, q4, List.append_assoc]
      exact e3) (.inr (by rw [hr]; exact q6))
    have hok : gapOk first g = true := by
      unfold gapOk
      split
      · rfl
      · rename_i hne
        have hgne : g ≠ [] := fun e => by
          subst e
          have hf : first = false := by simpa using hne
          obtain ⟨a, u, hau⟩ := List.exists_cons_of_ne_nil q8
          rcases hd with hd | hd | hd
          · rw [hf] at hd; cases hd
          · rw [q1, hau] at hd; simp at hd
          · rw [q1, hau] at hd
            have := q7 a (by rw [hau]; rfl)
            simp [headW?, this] at hd
        rw [hbl, q5.resolve_left hgne, Bool.true_and, Bool.true_and]
        rcases hd with hd | hd | hd
        · rw [hd]; rfl
        · rw [q1] at hd
          exact absurd (List.append_eq_nil_iff.1 hd).1 hgne
        · rw [q1, head_append hgne] at hd
          rw [hd]; simp
    rw [gapsF, hg]
    refine ⟨?_, ?_⟩
    · cases hq : gapsF text (t.2 + t.1.length) W2 with
      | nil =>
        have := gapsF_length text (t.2 + t.1.length) W2
        rw [hq] at this
        simp at this
      | cons g' r' =>
        rw [hq] at i1
        exact ⟨hok, i1⟩
    · rw [List.map_cons, interL, i2, hr, q1]
theorem fine_split {tl : List UInt8} : ∀ (A : List (List UInt8)) (first : Bool), gapsFine first (A ++ [tl]) → rightG first A = true ∧ (tl = [] ∨ blankP tl = true ∧ ((A = [] ∧ first = true) ∨ headW? tl = true))
  | [], first, h => ⟨rfl, h.imp id fun h => ⟨h.1, h.2.imp (fun h => ⟨rfl, h⟩) id⟩⟩
  | g :: A, first, h => by
    have h1 : gapOk first g = true ∧ gapsFine false (A ++ [tl]) := by
      cases A with
      | nil => exact h
      | cons a r => exact h
    obtain ⟨h2, h3⟩ := fine_split A false h1.2
    refine ⟨?_, h3.imp id fun h => ⟨h.1, .inr (h.2.resolve_left fun h => by cases h.2)⟩⟩
    rw [rightG, h1.1, Bool.true_and]
    cases A with
    | nil => rfl
    | cons a r => rw [rightG, Bool.and_eq_true] at h2; rw [List.all_cons, h2.1, h2.2]; rfl
theorem rightG_append {a b : List (List UInt8)} {first : Bool} (ha : a ≠ []) (h : rightG first (a ++ b) = true) : rightG first a = true ∧ rightG false b = true := by
  cases a with
  | nil => exact absurd rfl ha
  | cons g a =>
    rw [List.cons_append, rightG, List.all_append, Bool.and_eq_true, Bool.and_eq_true] at h
    refine ⟨by rw [rightG, h.1, h.2.1]; rfl, ?_⟩
    cases b with
    | nil => rfl
    | cons c b => have := h.2.2; rw [List.all_cons] at this; rw [rightG]; exact this
theorem rightP_of : ∀ (d : List PartD) (first : Bool), (∀ x ∈ d, x.2 ≠ []) → rightG first (d.map (·.2)).flatten = true → rightP first d = true
  | [], _, _, _ => rfl
  | x :: d, first, hn, h => by
    rw [List.map_cons, List.flatten_cons] at h
    obtain ⟨h1, h2⟩ := rightG_append (hn x (by simp)) h
    rw [rightP, h1, rightP_of d false (fun y hy => hn y (by simp [hy])) h2]
    rfl
theorem inter_append (R V : List (List UInt8)) : ∀ (gs ws : List (List UInt8)), gs.length = ws.length → interL (gs ++ R) (ws ++ V) = (gs.zip ws).flatMap (fun p => p.1 ++ p.2) ++ interL R V
  | [], [], _ => rfl
  | [], _ :: _, h => by simp at h
  | _ :: _, [], h => by simp at h
  | g :: gs, w :: ws, h => by
    rw [List.cons_append, List.cons_append, interL, inter_append R V gs ws (by simpa using h), List.zip_cons_cons, List.flatMap_cons]
    simp
theorem inter_doc (tl : List UInt8) : ∀ (d : List PartD), lensS d = true → interL ((d.map (·.2)).flatten ++ [tl]) ((d.map (·.1)).flatMap wordsS) = outS d ++ tl
  | [], _ => rfl
  | x :: d, h => by
    unfold lensS at h
    rw [List.all_cons, Bool.and_eq_true] at h
    have h1 : x.2.length = (wordsS x.1).length := by simpa using h.1
    rw [List.map_cons, List.map_cons, List.flatten_cons, List.flatMap_cons, List.append_assoc, inter_append _ _ _ _ h1, inter_doc tl d h.2]
    unfold outS
    rw [List.flatMap_cons]
    simp [outP]
/-- the gaps of a document, one behind the other -/
theorem parts_flat : ∀ (l : List StmD) (g : List (List UInt8)), g.length = numW l + 1 → ((partsF l g).map (·.2)).flatten ++ [g.getLastD []] = g ∧ lensS (partsF l g) = true
  | [], g, h => by
    obtain ⟨a, rfl⟩ : ∃ a, g = [a] := by
      cases g with
      | nil => simp at h
      | cons a g => exact ⟨a, by have : g = [] := List.eq_nil_of_length_eq_zero (by simp [numW] at h; simpa using h); rw [this]⟩
    exact ⟨rfl, rfl⟩
  | x :: l, g, h => by
    rw [numW_cons] at h
    obtain ⟨h1, h2⟩ := parts_flat l (g.drop (wordsS x).length) (by rw [List.length_drop]; omega)
    have hlast : (g.drop (wordsS x).length).getLastD [] = g.getLastD [] := by
      rw [List.getLastD_eq_getLast?, List.getLastD_eq_getLast?, List.getLast?_drop, if_neg (by omega)]
    rw [hlast] at h1
    refine ⟨?_, ?_⟩
    · rw [partsF, List.map_cons, List.flatten_cons, List.append_assoc, h1, List.take_append_drop]
    · rw [partsF]
      unfold lensS at h2 ⊢
      rw [List.all_cons, h2, Bool.and_true]
      simp
      omega
/-- Write of what was read -/
theorem read_write {text : List UInt8} {d : List PartD} {tl : List UInt8} {off : Nat} (h : docS text = (d, tl, off, 0)) : writeS d tl = (text, 0) := by
  unfold docS at h
  split at h
  · rename_i hz
    exact absurd (congrArg (fun q => q.2.2.2) h) hz
  · rename_i hz
    have hz : (stripS text).2.2.2 = 0 := by simpa using hz
    obtain ⟨⟨l, k, pe⟩, hp⟩ : ∃ r, parseS ((stripS text).1.map (·.1)) = r := ⟨_, rfl⟩
    rw [hp] at h
    dsimp only at h
    split at h
    · rename_i hpe
      exact absurd (congrArg (fun q => q.2.2.2) h) hpe
    · rename_i hpe
      obtain rfl : pe = 0 := by simpa using hpe
      cases h
      -- the scan and the strip
      have hscan : (scanS text).2.2 = 0 := by
        rcases Decidable.em ((scanS text).2.2 = 0) with h | h
        · exact h
        · rw [stripS_scan h] at hz; exact absurd hz h
      obtain ⟨W, C, hr, hW⟩ : ∃ W C, srun text ([], [], none) (scanS text).1 = .inl (W, C, none) ∧ (stripS text).1 = W := by
        cases hq : srun text ([], [], none) (scanS text).1 with
        | inr e => rw [stripS_bad hscan hq] at hz; exact absurd hz (srun_err hq)
        | inl y =>
          obtain ⟨w, c, o⟩ := y
          cases o with
          | some o => rw [stripS_open hscan hq] at hz; simp at hz
          | none => exact ⟨w, c, rfl, by rw [stripS_ok hscan hq]⟩
      obtain ⟨hlen, hbytes, htoks, h8⟩ : text.length ≤ 40000 ∧ text.all byteB = true ∧ (scanS text).1 = toks 0 text ∧ (toks 0 text).length ≤ 8000 := by
        unfold scanS at hscan ⊢
        split at hscan
        · cases hscan
        · rename_i hl
          rw [if_neg hl]
          split at hscan
          · cases hscan
          · rename_i hf
            cases ht : (toks 0 text)[8000]? with
            | some t => rw [ht] at hscan; cases hscan
            | none =>
              rw [List.findIdx?_eq_none_iff] at hf
              refine ⟨by omega, List.all_eq_true.2 fun b hb => ?_, rfl, by rw [List.getElem?_eq_none_iff] at ht; exact ht⟩
              have := hf b hb
              unfold byteB
              simpa using this
      rw [htoks] at hr
      have hw := parse_words hp
      rw [hW] at hw hp ⊢
      obtain ⟨f1, f2⟩ := gaps_fine hbytes W 0 [] [] true (Nat.zero_le _) (by rw [List.drop_zero, List.nil_append]; exact hr) (.inl rfl)
      rw [List.drop_zero] at f2
      obtain ⟨p1, p2⟩ := parts_flat l (gapsF text 0 W) (by rw [gapsF_length]; unfold numW; rw [hw, List.length_map])
      have hfst := partsF_fst' l (gapsF text 0 W)
      have hi := inter_doc ((gapsF text 0 W).getLastD []) _ p2
      rw [p1, hfst, hw, f2] at hi
      rw [← p1] at f1
      obtain ⟨s1, s2⟩ := fine_split _ _ f1
      have hne : ∀ x ∈ partsF l (gapsF text 0 W), x.2 ≠ [] := fun x hx e => by
        have h1 := List.all_eq_true.1 p2 x hx
        have h2 := words_pos x.1
        rw [e] at h1
        simp at h1
        rw [← h1] at h2
        simp at h2
      have hright : docRight (partsF l (gapsF text 0 W)) ((gapsF text 0 W).getLastD []) = true := by
        unfold docRight
        rw [rightP_of _ true hne s1, Bool.true_and]
        rcases s2 with s2 | ⟨s2, s3⟩
        · rw [s2]; rfl
        · rw [s2]
          rcases s3 with ⟨s3, _⟩ | s3
          · have hd0 : partsF l (gapsF text 0 W) = [] := by
              cases hq : partsF l (gapsF text 0 W) with
              | nil => rfl
              | cons x r =>
                rw [hq] at s3 hne
                rw [List.map_cons, List.flatten_cons] at s3
                exact absurd (List.append_eq_nil_iff.1 s3).1 (hne x (by simp))
            rw [hd0]; simp
          · rw [s3]; simp
      unfold writeS
      rw [hfst, parse_allW hp]
      dsimp only
      rw [if_neg (by simp), if_neg (by rw [p2]; simp), if_neg (by rw [hright]; simp), ← hi, if_neg (by omega), if_neg (by omega)]
where
  partsF_fst' : ∀ (l : List StmD) (g : List (List UInt8)), (partsF l g).map (·.1) = l
  | [], _ => rfl
  | x :: l, g => by rw [partsF, List.map_cons, partsF_fst' l]
end Go.Proofs.YtpmbfcogkoiogaaDoor
end
