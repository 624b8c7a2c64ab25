/- Layout: Read of Write is the document, in plain terms. Layout: Read of Write is the document, in plain terms: the words are found again. -/
import Derived.Test.YtpmbfcogkoiogaaDoorWordsPA
import Derived.Test.YtpmbfcogkoiogaaDoorFinePlain
section
namespace Go.Proofs.YtpmbfcogkoiogaaDoor
/-- a word of a text -/
structure WordOk (w : List UInt8) : Prop where
  ne : w ≠ []
  sp : ∀ b ∈ w, sp b = false
  com : hasC w = false
theorem toks_word {w r : List UInt8} (hw : WordOk w) (hr : r = [] ∨ headW? r = true) (k : Nat) : toks k (w ++ r) = (w, k) :: toks (k + w.length) r := by
  obtain ⟨b, u, rfl⟩ := List.exists_cons_of_ne_nil hw.ne
  have hu : ∀ c ∈ u, (!sp c) = true := fun c hc => by rw [hw.sp c (by simp [hc])]; rfl
  rw [List.cons_append, toks_cons (hw.sp b (by simp))]
  have hrt : r.takeWhile (fun c => !sp c) = [] ∧ r.dropWhile (fun c => !sp c) = r := by
    rcases hr with rfl | hr
    · exact ⟨rfl, rfl⟩
    · cases r with
      | nil => exact ⟨rfl, rfl⟩
      | cons c r =>
        have hc : sp c = true := hr
        exact ⟨by rw [List.takeWhile_cons_of_neg (by simp [hc])], by rw [List.dropWhile_cons_of_neg (by simp [hc])]⟩
  have e1 : (u ++ r).takeWhile (fun c => !sp c) = u := by rw [List.takeWhile_append_of_pos hu, hrt.1, List.append_nil]
  have e2 : (u ++ r).dropWhile (fun c => !sp c) = r := by rw [List.dropWhile_append_of_pos hu, hrt.2]
  rw [e1, e2]
  congr 2
  simp
  omega
theorem toks_app : ∀ (n : Nat) (g s : List UInt8), g.length ≤ n → (g = [] ∨ lastW? g = true) → ∀ k : Nat, toks k (g ++ s) = toks k g ++ toks (k + g.length) s
  | 0, g, s, hn, _, k => by
    obtain rfl : g = [] := List.eq_nil_of_length_eq_zero (by omega)
    rw [toks_nil]; rfl
  | n + 1, g, s, hn, hg, k => by
    match g, hn, hg with
    | [], _, _ => rw [toks_nil]; rfl
    | b :: g, hn, hg =>
      have hl : lastW? (b :: g) = true := hg.resolve_left (by simp)
      by_cases hb : sp b = true
      · have hg' : g = [] ∨ lastW? g = true := by
          cases g with
          | nil => exact .inl rfl
          | cons c g => exact .inr (by simpa [lastW?, List.getLast?_cons_cons] using hl)
        rw [List.cons_append, toks_sp hb, toks_sp hb, toks_app n g s (by simpa using hn) hg' (k + 1)]
        congr 2
        simp
        omega
      · have hb' : sp b = false := by simpa using hb
        -- the run ends within g
        have hne : g.dropWhile (fun c => !sp c) ≠ [] := fun e => by
          have hall : ∀ c ∈ g, sp c = false := fun c hc => by
            have h1 := List.takeWhile_append_dropWhile (p := fun c => !sp c) (l := g)
            rw [e, List.append_nil] at h1
            have := List.all_eq_true.1 (List.all_takeWhile (p := fun c => !sp c) (l := g)) c (by rw [h1]; exact hc)
            simpa using this
          unfold lastW? at hl
          cases hq : (b :: g).getLast? with
          | none => rw [hq] at hl; cases hl
          | some c =>
            rw [hq] at hl
            dsimp only at hl
            have hm := List.mem_of_getLast? hq
            rcases List.mem_cons.1 hm with rfl | hm
            · rw [hb'] at hl; cases hl
            · rw [hall c hm] at hl; cases hl
        have e1 : (g ++ s).takeWhile (fun c => !sp c) = g.takeWhile (fun c => !sp c) ∧ (g ++ s).dropWhile (fun c => !sp c) = g.dropWhile (fun c => !sp c) ++ s := by
          have h0 := List.takeWhile_append_dropWhile (p := fun c => !sp c) (l := g)
          have hall : ∀ c ∈ g.takeWhile (fun c => !sp c), (!sp c) = true := fun c hc => List.all_eq_true.1 (List.all_takeWhile (p := fun c => !sp c) (l := g)) c hc
          obtain ⟨c, r, hcr⟩ := List.exists_cons_of_ne_nil hne
          have hc : sp c = true := by
            have := List.head?_dropWhile_not (p := fun c => !sp c) (l := g)
            rw [hcr] at this
            simpa using this
          have hgs : g ++ s = g.takeWhile (fun c => !sp c) ++ (c :: (r ++ s)) := by
            conv => lhs; rw [← h0, hcr]
            simp
          refine ⟨?_, ?_⟩
          · rw [hgs, List.takeWhile_append_of_pos hall, List.takeWhile_cons_of_neg (by simp [hc]), List.append_nil]
          · rw [hgs, List.dropWhile_append_of_pos hall, List.dropWhile_cons_of_neg (by simp [hc]), hcr]; rfl
        have hlen : (g.dropWhile fun c => !sp c).length ≤ n := by
          have := (List.dropWhile_sublist (fun c => !sp c) (l := g)).length_le
          simp at hn
          omega
        have hlast : lastW? (g.dropWhile fun c => !sp c) = true := by
          have h0 := List.takeWhile_append_dropWhile (p := fun c => !sp c) (l := g)
          unfold lastW? at hl ⊢
          have : (b :: g).getLast? = (g.dropWhile fun c => !sp c).getLast? := by
            rw [← h0, ← List.cons_append, List.getLast?_append]
            conv => rhs; rw [List.takeWhile_append_dropWhile]
            cases hq : (g.dropWhile fun c => !sp c).getLast? with
            | none => exact absurd (List.getLast?_eq_none_iff.1 hq) hne
            | some c => rfl
          rw [this] at hl
          exact hl
        have hsum : (g.takeWhile fun c => !sp c).length + (g.dropWhile fun c => !sp c).length = g.length := by
          rw [← List.length_append, List.takeWhile_append_dropWhile]
        rw [List.cons_append, toks_cons hb', toks_cons hb', e1.1, e1.2, toks_app n _ s hlen (.inr hlast), List.cons_append]
        congr 3
        simp
        omega
/-- over comments alone the words stay -/
theorem brun_srun {text : List UInt8} {W0 : List TokD} : ∀ (T : List TokD) (c : List ComD) (o : Option Nat) {b : Bool}, brun o.isSome (T.map (·.1)) = some b → ∃ C o', srun text (W0, c, o) T = .inl (W0, C, o') ∧ o'.isSome = b
  | [], c, o, b, h => by
    rw [List.map_nil, brun] at h
    cases h
    exact ⟨c, o, rfl, rfl⟩
  | t :: T, c, o, b, h => by
    rw [List.map_cons, brun] at h
    rw [srun]
    unfold sstep
    by_cases h1 : t.1 = [36, 40]
    · rw [if_neg (by rw [h1]; simp), if_pos h1]
      cases o with
      | none =>
        rw [if_pos (.inl ⟨h1, rfl⟩)] at h
        exact brun_srun T c (some t.2) h
      | some a =>
        rw [if_neg (by rw [h1]; simp), if_pos (.inr (by rw [h1]; decide))] at h
        cases h
    · by_cases h2 : t.1 = [36, 41]
      · rw [if_neg (by rw [h2]; simp), if_neg h1, if_pos h2]
        cases o with
        | none =>
          rw [if_neg (by rw [h2]; simp), if_pos (.inl rfl)] at h
          cases h
        | some a =>
          rw [if_pos (.inr ⟨h2, rfl⟩)] at h
          exact brun_srun T _ none h
      · rw [if_neg (by simp [h1, h2])] at h
        split at h
        · cases h
        · rename_i h3
          rw [not_or] at h3
          cases o with
          | none => exact absurd rfl h3.1
          | some a =>
            rw [if_neg (fun q => h3.2 q.2), if_neg h1, if_neg h2]
            exact brun_srun T c (some a) h
theorem blank_brun {s : List UInt8} (h : blankP s = true) (k : Nat) : brun false ((toks k s).map (·.1)) = some false := by
  unfold blankP at h
  rw [Bool.and_eq_true] at h
  rw [toks_shift s.length s (Nat.le_refl _) k 0]
  simpa using h.2
theorem hasC_two' : hasC [36, 40] = true ∧ hasC [36, 41] = true := by decide
/-- the gaps and words of a text are found again -/
theorem inter_read {text : List UInt8} {tl : List UInt8} : ∀ (gs ws : List (List UInt8)) (k : Nat) (W0 : List TokD) (c : List ComD) (first : Bool), gs.length = ws.length → (∀ w ∈ ws, WordOk w) → gapsFine first (gs ++ [tl]) → text.drop k = interL (gs ++ [tl]) ws → k ≤ text.length →
    ∃ W C, srun text (W0, c, none) (toks k (text.drop k)) = .inl (W0 ++ W, C, none) ∧ W.map (·.1) = ws ∧ gapsF text k W = gs ++ [tl] ∧ (gs = [] → first = false → tl = [] ∨ headW? (text.drop k) = true) ∧ (gs ≠ [] → first = false → headW? (text.drop k) = true)
  | [], [], k, W0, c, first, _, _, hf, ht, hk => by
    have ht' : text.drop k = tl := ht
    have hb : brun false ((toks k tl).map (·.1)) = some false := by
      rcases hf with hf | hf
      · rw [hf, toks_nil]; rfl
      · exact blank_brun hf.1 k
    obtain ⟨C, o', h1, h2⟩ := brun_srun (text := text) (W0 := W0) (toks k tl) c none hb
    have ho : o' = none := by cases o' with | none => rfl | some a => cases h2
    refine ⟨[], C, by rw [ht', List.append_nil, h1, ho], rfl, by rw [gapsF, ht']; rfl, fun _ hf0 => ?_, fun h => absurd rfl h⟩
    rcases hf with hf | hf
    · exact .inl hf
    · rw [ht']
      exact .inr (hf.2.resolve_left (by rw [hf0]; simp))
  | [], _ :: _, _, _, _, _, h, _, _, _, _ => by simp at h
  | _ :: _, [], _, _, _, _, h, _, _, _, _ => by simp at h
  | g :: gs, w :: ws, k, W0, c, first, hl, hw, hf, ht, hk => by
    have hf1 : gapOk first g = true ∧ gapsFine false (gs ++ [tl]) := by
      cases gs with
      | nil => exact hf
      | cons a r => exact hf
    have hww := hw w (by simp)
    rw [List.cons_append, interL] at ht
    obtain ⟨r, hr⟩ : ∃ r, interL (gs ++ [tl]) ws = r := ⟨_, rfl⟩
    rw [hr] at ht
    have hlen : text.length = k + (g.length + (w.length + r.length)) := by
      have := congrArg List.length ht
      simp at this
      omega
    have hdr : text.drop (k + g.length + w.length) = r := by
      rw [show k + g.length + w.length = k + (g.length + w.length) by omega, ← List.drop_drop, ht, ← List.append_assoc, List.drop_left' (by simp)]
    have hg : (g = [] ∨ lastW? g = true) ∧ brun false ((toks k g).map (·.1)) = some false ∧ (first = false → headW? g = true ∧ g ≠ []) := by
      have h := hf1.1
      unfold gapOk at h
      split at h
      · rename_i h1
        rw [Bool.and_eq_true] at h1
        have hg0 : g = [] := by simpa using h1.2
        subst hg0
        exact ⟨.inl rfl, by rw [toks_nil]; rfl, fun h2 => by rw [h2] at h1; cases h1.1⟩
      · simp only [Bool.and_eq_true, Bool.or_eq_true] at h
        refine ⟨.inr h.1.2, blank_brun h.1.1 k, fun h2 => ?_⟩
        have h3 := h.2.resolve_left (by rw [h2]; simp)
        exact ⟨h3, fun e => by rw [e] at h3; cases h3⟩
    obtain ⟨C1, o', h1, h2⟩ := brun_srun (text := text) (W0 := W0) (toks k g) c none hg.2.1
    have ho : o' = none := by cases o' with | none => rfl | some a => cases h2
    subst ho
    obtain ⟨W, C, i1, i2, i3, i4, i5⟩ := inter_read gs ws (k + g.length + w.length) (W0 ++ [(w, k + g.length)]) C1 false (by simpa using hl) (fun u hu => hw u (by simp [hu])) hf1.2 (by rw [hdr, hr]) (by omega)
    have hrw : r = [] ∨ headW? r = true := by
      rw [hdr] at i4 i5
      by_cases hgs : gs = []
      · rcases i4 hgs rfl with h | h
        · left
          subst hgs
          have : ws = [] := List.eq_nil_of_length_eq_zero (by simpa using hl.symm)
          rw [← hr, this, h]
          rfl
        · exact .inr h
      · exact .inr (i5 hgs rfl)
    have htk : toks k (text.drop k) = toks k g ++ (w, k + g.length) :: toks (k + g.length + w.length) (text.drop (k + g.length + w.length)) := by
      rw [ht, toks_app g.length g _ (Nat.le_refl _) hg.1, toks_word hww hrw, hdr]
    have hstep : sstep text (W0, C1, none) (w, k + g.length) = .inl (W0 ++ [(w, k + g.length)], C1, none) := by
      unfold sstep
      have n1 : w ≠ [36, 40] := fun e => by have := hww.com; rw [e, hasC_two'.1] at this; cases this
      have n2 : w ≠ [36, 41] := fun e => by have := hww.com; rw [e, hasC_two'.2] at this; cases this
      rw [if_neg (fun q => by rw [hww.com] at q; cases q.2), if_neg n1, if_neg n2]
    refine ⟨(w, k + g.length) :: W, C, ?_, by rw [List.map_cons, i2], ?_, fun h => absurd h (by simp), fun _ hf0 => ?_⟩
    · rw [htk, srun_append h1, srun, hstep]
      dsimp only
      rw [i1, List.append_assoc]
      rfl
    · rw [gapsF]
      dsimp only
      rw [i3, List.drop_take, ht, show k + g.length - k = g.length by omega, List.take_left]
      rfl
    · obtain ⟨h3, h4⟩ := hg.2.2 hf0
      rw [ht, head_append h4]
      exact h3
where
  srun_append {text : List UInt8} {x y : StD} : ∀ {T U : List TokD}, srun text x T = .inl y → srun text x (T ++ U) = srun text y U
  | [], U, h => by
    rw [srun] at h
    cases h
    rfl
  | t :: T, U, h => by
    rw [srun] at h
    rw [List.cons_append, srun]
    split at h
    · cases h
    · rename_i z hz
      exact srun_append h
end Go.Proofs.YtpmbfcogkoiogaaDoor
end
section
namespace Go.Proofs.YtpmbfcogkoiogaaDoor
theorem hasB_mem {a b : UInt8} {s : List UInt8} (h : hasB a b s = true) : a ∈ s ∧ b ∈ s := by
  obtain ⟨j, h1, h2⟩ := (hasB_iff a b s).1 h
  exact ⟨List.mem_of_getElem? h1, List.mem_of_getElem? h2⟩
theorem hasC_mem {s : List UInt8} (h : hasC s = true) : 36 ∈ s ∧ (40 ∈ s ∨ 41 ∈ s) := by
  unfold hasC at h
  rw [Bool.or_eq_true] at h
  rcases h with h | h
  · exact ⟨(hasB_mem h).1, .inl (hasB_mem h).2⟩
  · exact ⟨(hasB_mem h).1, .inr (hasB_mem h).2⟩
theorem word_cls {w : List UInt8} (hne : w ≠ []) (h1 : ∀ b ∈ w, cls b.toNat ≠ 1) (h2 : ¬ (36 ∈ w ∧ (40 ∈ w ∨ 41 ∈ w))) : WordOk w := by
  refine ⟨hne, fun b hb => sp_false (h1 b hb), ?_⟩
  cases hc : hasC w with
  | false => rfl
  | true => exact absurd (hasC_mem hc) h2
theorem only_word {w : List UInt8} {l : List Nat} (h : onlyS w l) (h4 : 4 ∉ l) (h1 : 1 ∉ l) : WordOk w := by
  refine word_cls h.1 (fun b hb e => h1 (e ▸ h.2.2 b hb)) fun hh => ?_
  have := h.2.2 _ hh.1
  have e : cls (36 : UInt8).toNat = 4 := by decide
  rw [e] at this
  exact h4 this
theorem prf_word {w : List UInt8} (h : prfS w = true) : WordOk w := by
  unfold prfS at h
  simp only [Bool.or_eq_true, Bool.and_eq_true, beq_iff_eq] at h
  rcases h with (h | h) | h
  · subst h; exact word_cls (by simp) (by decide) (by decide)
  · subst h; exact word_cls (by simp) (by decide) (by decide)
  · have hb : ∀ b ∈ w, cls b.toNat = 2 ∨ b = 63 := fun b hb => by
      have := List.all_eq_true.1 h.2 b hb
      unfold prfB at this
      simpa using this
    refine word_cls (by simpa using h.1) (fun b hm e => ?_) fun hh => ?_
    · rcases hb b hm with h1 | h1
      · rw [h1] at e; cases e
      · subst h1; exact absurd e (by decide)
    · rcases hb _ hh.1 with h1 | h1
      · exact absurd h1 (by decide)
      · exact absurd h1 (by decide)
theorem kw_word {k : Int} (h : 1 ≤ k ∧ k ≤ 9) : WordOk (kwOf k) := by
  obtain ⟨n, rfl⟩ : ∃ n : Nat, k = n := ⟨k.toNat, by omega⟩
  have h1 : ∀ n : Nat, n < 10 → n ≠ 0 → kwN n ≠ [] ∧ (∀ b ∈ kwN n, cls b.toNat ≠ 1) ∧ ¬ (36 ∈ kwN n ∧ (40 ∈ kwN n ∨ 41 ∈ kwN n)) := by decide +kernel
  obtain ⟨a, b, c⟩ := h1 n (by omega) (by omega)
  exact word_cls a b c
/-- the words of a well-formed statement -/
theorem words_word {x : StmD} (h : formedS x = true) : ∀ u ∈ wordsS x, WordOk u := by
  obtain ⟨hk, _, h7⟩ := formed_parts h
  unfold formedS at h
  simp only [Bool.and_eq_true] at h
  obtain ⟨⟨⟨⟨⟨_, hl⟩, _⟩, ht⟩, hp⟩, _⟩ := h
  intro u hu
  unfold wordsS at hu
  simp only [List.mem_append] at hu
  rcases hu with (((hu | hu) | hu) | hu) | hu
  · by_cases hlab : labS x.kind = true
    · rw [if_pos hlab] at hu hl
      simp at hu
      subst hu
      exact only_word (of_decide_eq_true hl) (by decide) (by decide)
    · rw [if_neg hlab] at hu; cases hu
  · simp at hu
    subst hu
    exact kw_word hk
  · have := List.all_eq_true.1 ht u hu
    exact only_word (of_decide_eq_true this) (by decide) (by decide)
  · split at hu
    · rcases List.mem_cons.1 hu with rfl | hu
      · exact word_cls (by simp) (by decide) (by decide)
      · exact prf_word (List.all_eq_true.1 hp u hu)
    · cases hu
  · split at hu
    · cases hu
    · simp at hu
      subst hu
      exact word_cls (by simp) (by decide) (by decide)
theorem fine_of {tl : List UInt8} : ∀ (A : List (List UInt8)) (first : Bool), rightG first A = true → (tl = [] ∨ blankP tl = true ∧ ((A = [] ∧ first = true) ∨ headW? tl = true)) → gapsFine first (A ++ [tl])
  | [], first, _, h => by
    rw [List.nil_append, gapsFine]
    exact h.imp id fun h => ⟨h.1, h.2.imp And.right id⟩
  | a :: r, first, h, ht => by
    rw [rightG, Bool.and_eq_true] at h
    have h2 : rightG false r = true := by
      cases r with
      | nil => rfl
      | cons b r => rw [rightG]; have := h.2; rwa [List.all_cons] at this
    have h3 : tl = [] ∨ blankP tl = true ∧ ((r = [] ∧ false = true) ∨ headW? tl = true) := ht.imp id fun h => ⟨h.1, .inr (h.2.resolve_left fun q => nomatch q.1)⟩
    have h4 := fine_of r false h2 h3
    obtain ⟨c, s, hc⟩ : ∃ c s, r ++ [tl] = c :: s := by cases r with | nil => exact ⟨_, _, rfl⟩ | cons c s => exact ⟨_, _, rfl⟩
    rw [List.cons_append, hc, gapsFine, ← hc]
    exact ⟨h.1, h4⟩
theorem rightG_join {a b : List (List UInt8)} {first : Bool} (ha : a ≠ []) (h : rightG first a = true) (h2 : rightG false b = true) : rightG first (a ++ b) = true := by
  cases a with
  | nil => exact absurd rfl ha
  | cons c r =>
    rw [rightG, Bool.and_eq_true] at h
    rw [List.cons_append, rightG, h.1, Bool.true_and, List.all_append, h.2, Bool.true_and]
    cases b with
    | nil => rfl
    | cons d s => rw [rightG] at h2; rw [List.all_cons]; exact h2
theorem rightG_of : ∀ (d : List PartD) (first : Bool), (∀ x ∈ d, x.2 ≠ []) → rightP first d = true → rightG first (d.map (·.2)).flatten = true
  | [], _, _, _ => rfl
  | x :: r, first, hn, h => by
    rw [rightP, Bool.and_eq_true] at h
    rw [List.map_cons, List.flatten_cons]
    exact rightG_join (hn x (by simp)) h.1 (rightG_of r false (fun y hy => hn y (by simp [hy])) h.2)
theorem partsF_doc (tl : List UInt8) : ∀ (d : List PartD), lensS d = true → partsF (d.map (·.1)) ((d.map (·.2)).flatten ++ [tl]) = d
  | [], _ => rfl
  | x :: r, h => by
    unfold lensS at h
    rw [List.all_cons, Bool.and_eq_true] at h
    have hl : x.2.length = (wordsS x.1).length := by simpa using h.1
    rw [List.map_cons, List.map_cons, List.flatten_cons, partsF, List.append_assoc, ← hl, List.take_left, List.drop_left, partsF_doc tl r h.2]
theorem lens_flat : ∀ (d : List PartD), lensS d = true → (d.map (·.2)).flatten.length = ((d.map (·.1)).flatMap wordsS).length
  | [], _ => rfl
  | x :: r, h => by
    unfold lensS at h
    rw [List.all_cons, Bool.and_eq_true] at h
    have hl : x.2.length = (wordsS x.1).length := by simpa using h.1
    rw [List.map_cons, List.map_cons, List.flatten_cons, List.flatMap_cons, List.length_append, List.length_append, hl, lens_flat r h.2]
/-- Read of what was written -/
theorem write_read {d : List PartD} {tl : List UInt8} (h : (writeS d tl).2 = 0) : docS (writeS d tl).1 = (d, tl, 0, 0) := by
  unfold writeS at h ⊢
  split at h
  · rename_i h1; exact absurd h h1
  rename_i h1
  have h1 : (allW (d.map (·.1))).2 = 0 := by simpa using h1
  split at h
  · cases h
  rename_i h2
  split at h
  · cases h
  rename_i h3
  split at h
  · cases h
  rename_i h4
  split at h
  · cases h
  rename_i h5
  rw [if_neg (by rw [h1]; simp), if_neg h2, if_neg h3, if_neg h4, if_neg h5]
  have h2 : lensS d = true := by simpa using h2
  have h3 : docRight d tl = true := by simpa using h3
  have hf : ∀ x ∈ d, formedS x.1 = true := fun x hx => allW_fine h1 x.1 (List.mem_map_of_mem hx)
  have hbytes := out_byte hf h3
  obtain ⟨hl20, hw80⟩ : (d.map (·.1)).length ≤ 2000 ∧ ((d.map (·.1)).flatMap wordsS).length ≤ 8000 := by
    unfold allW at h1
    split at h1
    · cases h1
    · rename_i q1
      split at h1
      · split at h1
        · cases h1
        · rename_i q2
          exact ⟨by omega, by omega⟩
      · cases h1
  have hscan : scanS (outS d ++ tl) = (toks 0 (outS d ++ tl), 0, 0) := by
    unfold scanS
    rw [if_neg h4]
    have hfi : (outS d ++ tl).findIdx? (fun b => cls b.toNat == 0) = none := by
      rw [List.findIdx?_eq_none_iff]
      intro b hb
      have := hbytes b hb
      unfold byteB at this
      simpa using this
    have ht : (toks 0 (outS d ++ tl))[8000]? = none := by rw [List.getElem?_eq_none_iff]; omega
    rw [hfi]
    dsimp only
    rw [ht]
  have hne : ∀ x ∈ d, x.2 ≠ [] := fun x hx e => by
    have q1 := List.all_eq_true.1 h2 x hx
    have q2 := words_pos x.1
    rw [e] at q1
    simp at q1
    rw [← q1] at q2
    simp at q2
  unfold docRight at h3
  rw [Bool.and_eq_true] at h3
  have hfine : gapsFine true ((d.map (·.2)).flatten ++ [tl]) := by
    refine fine_of _ _ (rightG_of d true hne h3.1) ?_
    have q := h3.2
    rw [Bool.or_eq_true, Bool.and_eq_true, Bool.or_eq_true] at q
    refine q.imp (fun q => by simpa using q) fun q => ⟨q.1, q.2.imp (fun q => ?_) id⟩
    have : d = [] := by simpa using q
    subst this
    exact ⟨rfl, rfl⟩
  have hwords : ∀ w ∈ (d.map (·.1)).flatMap wordsS, WordOk w := fun w hw => by
    obtain ⟨x, hx, hw⟩ := List.mem_flatMap.1 hw
    obtain ⟨y, hy, rfl⟩ := List.mem_map.1 hx
    exact words_word (hf y hy) w hw
  obtain ⟨W, C, r1, r2, r3, _, _⟩ := inter_read (text := outS d ++ tl) (tl := tl) (d.map (·.2)).flatten ((d.map (·.1)).flatMap wordsS) 0 [] [] true (lens_flat d h2) hwords hfine (by rw [List.drop_zero, inter_doc tl d h2]) (Nat.zero_le _)
  rw [List.drop_zero, List.nil_append] at r1
  have hs : stripS (outS d ++ tl) = (W, C, 0, 0) := stripS_ok (by rw [hscan]) (by rw [hscan]; exact r1)
  have hp := words_parse (l := d.map (·.1)) (fun x hx => by
    obtain ⟨y, hy, rfl⟩ := List.mem_map.1 hx
    exact hf y hy) hl20 hw80
  unfold docS
  rw [hs]
  dsimp only
  rw [r2, hp, r3, if_neg (by simp)]
  dsimp only
  rw [if_neg (by simp), partsF_doc tl d h2, List.getLastD_concat]
end Go.Proofs.YtpmbfcogkoiogaaDoor
end
