/- The marks of a text can be written. -/
import Derived.Test.YthkeggmloajapaaMarkPlain2
namespace Go.Proofs.Ythkeggmloajapaa
theorem lastM_cons (b x : MarkD) (l : List MarkD) : lastM b (x :: l) = lastM x l := by unfold lastM; rw [List.getLast?_cons]; rfl
theorem fitL_snoc : ∀ (l : List MarkD) (b m : MarkD), fitL b (l ++ [m]) = (fitL b l && (formM m && fitM (lastM b l) m))
  | [], b, m => by simp [fitL, lastM]
  | x :: l, b, m => by
    rw [List.cons_append, fitL, fitL, fitL_snoc l x m, lastM_cons]
    simp only [Bool.and_assoc]
theorem last_split {out : List MarkD} {m : MarkD} (h : lastM (0, []) out = m) (hm : m.1 ≠ 0) : ∃ o, out = o ++ [m] := by
  rcases List.eq_nil_or_concat out with rfl | ⟨o, a, rfl⟩
  · rw [← h] at hm
    exact absurd rfl hm
  · rw [List.concat_eq_append, lastM_snoc] at h
    exact ⟨o, by rw [List.concat_eq_append, h]⟩
theorem dup_one (b : UInt8) : 1 ≤ (dupS [b]).length ∧ (dupS [b]).length ≤ 2 := by
  by_cases h : special b = true <;> simp [dupS, h]
theorem dup_app (u t : List UInt8) : dupS (u ++ t) = dupS u ++ dupS t := by simp [dupS]
theorem plain_add {out : List MarkD} {b : UInt8} (h : fitL (0, []) out = true) (h3 : (lastM (0, []) out).1 = 3 → sp b = true) :
    fitL (0, []) (addM out 1 [b]) = true ∧ (lastM (0, []) (addM out 1 [b])).1 = 1 ∧ ((addM out 1 [b]).flatMap writeM).length = (out.flatMap writeM).length + (dupS [b]).length := by
  by_cases h1 : (lastM (0, []) out).1 = 1
  · obtain ⟨⟨k, u⟩, hu⟩ : ∃ m, lastM (0, []) out = m := ⟨_, rfl⟩
    rw [hu] at h1
    dsimp only at h1
    subst h1
    obtain ⟨o, rfl⟩ := last_split hu (show (1 : Int) ≠ 0 by decide)
    rw [fitL_snoc, Bool.and_eq_true, Bool.and_eq_true] at h
    have hne : u ≠ [] := fun e => by
      have := h.2.1
      rw [e] at this
      simp [formM] at this
    obtain ⟨a, v, rfl⟩ := List.exists_cons_of_ne_nil hne
    rw [addM_plain, lastM_snoc, fitL_snoc, Bool.and_eq_true, Bool.and_eq_true]
    refine ⟨⟨h.1, by simp [formM], ?_⟩, rfl, ?_⟩
    · have h4 := h.2.2
      unfold fitM at h4 ⊢
      simpa using h4
    · rw [List.flatMap_append, List.flatMap_append, List.length_append, List.length_append]
      have e1 : List.flatMap writeM [(1, a :: v)] = dupS (a :: v) := by simp [writeM]
      have e2 : List.flatMap writeM [(1, a :: v ++ [b])] = dupS (a :: v) ++ dupS [b] := by rw [← dup_app]; simp [writeM]
      rw [e1, e2, List.length_append]
      omega
  · rw [addM_other (fun e => h1 e.2), lastM_snoc, fitL_snoc, h]
    refine ⟨?_, rfl, ?_⟩
    · have : fitM (lastM (0, []) out) (1, [b]) = true := by
        unfold fitM
        have e1 : ((lastM (0, []) out).1 == 1) = false := by simpa using h1
        rw [e1]
        by_cases e3 : (lastM (0, []) out).1 = 3
        · simp [h3 e3]
        · have e3 : ((lastM (0, []) out).1 == 3) = false := by simpa using e3
          rw [e3]
          rfl
      rw [this]
      simp [formM]
    · rw [List.flatMap_append, List.length_append]
      simp [writeM]
theorem other_add {out : List MarkD} {k : Int} {t : List UInt8} (h : fitL (0, []) out = true) (hf : formM (k, t) = true) (hk : k ≠ 1) (h3 : (lastM (0, []) out).1 ≠ 3) :
    fitL (0, []) (addM out k t) = true ∧ lastM (0, []) (addM out k t) = (k, t) ∧ ((addM out k t).flatMap writeM).length = (out.flatMap writeM).length + (writeM (k, t)).length := by
  rw [addM_other (fun e => hk e.1), lastM_snoc, fitL_snoc, h, hf]
  refine ⟨?_, rfl, by simp⟩
  have e1 : (k == 1) = false := by simpa using hk
  have e3 : ((lastM (0, []) out).1 == 3) = false := by simpa using h3
  unfold fitM
  dsimp only
  rw [e1, e3]
  rfl
theorem all_take {α : Type} (p : α → Bool) (l : List α) : ∀ x ∈ l.takeWhile p, p x = true := List.all_eq_true.1 List.all_takeWhile
theorem drop_stop {α : Type} (p : α → Bool) : ∀ (l : List α) y, (l.drop (l.takeWhile p).length).head? = some y → p y = false
  | [], y, h => by simp at h
  | a :: l, y, h => by
    by_cases ha : p a = true
    · rw [List.takeWhile_cons_of_pos ha] at h
      exact drop_stop p l y (by simpa using h)
    · rw [List.takeWhile_cons_of_neg ha] at h
      simp at h
      rw [← h]
      simpa using ha
/-- what holds between the steps of Marks -/
structure MarkI (out : List MarkD) (s : List UInt8) (i : Nat) : Prop where
  fit : fitL (0, []) out = true
  ref : (lastM (0, []) out).1 = 3 → ∀ y, s.head? = some y → sp y = true
  len : (out.flatMap writeM).length ≤ 2 * i
theorem write_len2 (t : List UInt8) : (writeM (2, t)).length = t.length + 2 := by simp [writeM]
theorem write_len3 (t : List UInt8) : (writeM (3, t)).length = t.length + 2 := by simp [writeM]
theorem write_len4 (t : List UInt8) : (writeM (4, t)).length = t.length + 2 := by simp [writeM]
theorem special_sp {b : UInt8} (h : special b = true) : sp b = false := by
  by_cases hs : sp b = true
  · rw [sp_special hs] at h; cases h
  · simpa using hs
theorem MarkI.step {out : List MarkD} {s : List UInt8} {i : Nat} (h : MarkI out s i) {k : Int} {t : List UInt8} {c : Nat} (hs : mstep s = some (k, t, c)) : MarkI (addM out k t) (s.drop c) (i + c) := by
  obtain ⟨h1, h2, h3⟩ := h
  cases s with
  | nil => cases hs
  | cons b r =>
    have hb : special b = true → (lastM (0, []) out).1 ≠ 3 := fun hb e => by
      have := h2 e b rfl
      rw [special_sp hb] at this
      cases this
    rw [mstep_cons] at hs
    split at hs
    · rename_i hd
      cases hs
      obtain ⟨q1, q2, q3⟩ := plain_add (b := b) h1 (fun e => absurd e (hb hd.1))
      have := dup_one b
      exact ⟨q1, fun e => (by rw [q2] at e; cases e), by omega⟩
    · rename_i hd
      split at hs
      · rename_i h96
        subst h96
        split at hs
        · cases hs
        · rename_i hl
          cases hs
          have hf : formM (2, mathT r) = true := by
            have ha := all_take (fun c => c != 96) r
            unfold formM
            dsimp only
            rw [if_neg (by decide), if_pos rfl, Bool.and_eq_true]
            refine ⟨?_, ?_⟩
            · cases r with
              | nil => simp [mathT] at hl
              | cons a r =>
                have hne : a ≠ 96 := fun e => hd ⟨by decide, by rw [e]; rfl⟩
                unfold mathT
                rw [List.takeWhile_cons_of_pos (by simpa using hne)]
                rfl
            · have : ∀ x ∈ mathT r, ¬ (x == 96) = true := fun x hx => by simpa using ha x hx
              simpa using this
          obtain ⟨q1, q2, q3⟩ := other_add h1 hf (by decide) (hb (by decide))
          refine ⟨q1, fun e => (by rw [q2] at e; cases e), ?_⟩
          rw [q3, write_len2]
          omega
      · split at hs
        · rename_i h126
          subst h126
          split at hs
          · cases hs
          · rename_i hw
            cases hs
            have hw : refW r ≠ 0 ∧ refT r ≠ [] := by simpa using hw
            have hf : formM (3, refT r) = true := by
              have ha := all_take (fun c => !sp c) (r.drop (refW r))
              unfold formM
              dsimp only
              rw [if_neg (by decide), if_neg (by decide), if_pos rfl, Bool.and_eq_true]
              refine ⟨by simpa using hw.2, ?_⟩
              have : ∀ x ∈ refT r, ¬ sp x = true := fun x hx => by simpa using ha x hx
              simpa using this
            obtain ⟨q1, q2, q3⟩ := other_add h1 hf (by decide) (hb (by decide))
            refine ⟨q1, fun _ y hy => ?_, ?_⟩
            · have e : (126 :: r).drop (1 + refW r + (refT r).length) = (r.drop (refW r)).drop (refT r).length := by
                rw [List.drop_drop, show 1 + refW r + (refT r).length = (refW r + (refT r).length) + 1 by omega, List.drop_succ_cons]
              rw [e] at hy
              have := drop_stop (fun c => !sp c) (r.drop (refW r)) y hy
              simpa using this
            · rw [q3]
              have := hw.1
              rw [write_len3]
              omega
        · split at hs
          · rename_i h91
            obtain ⟨h91, hn⟩ := h91
            subst h91
            cases hs
            have hc : citeN r = (r.takeWhile citeP).length := by
              unfold citeN at hn ⊢
              split at hn
              · rename_i h4; rw [if_pos h4]
              · exact absurd rfl hn
            have ht : r.take (citeN r) = r.takeWhile citeP := by
              rw [hc]
              exact List.prefix_iff_eq_take.1 (List.takeWhile_prefix citeP) |>.symm
            have hf : formM (4, r.take (citeN r)) = true := by
              rw [ht]
              unfold formM
              dsimp only
              rw [if_neg (by decide), if_neg (by decide), if_neg (by decide), if_pos rfl, Bool.and_eq_true]
              refine ⟨?_, List.all_takeWhile⟩
              rw [hc] at hn
              have : r.takeWhile citeP ≠ [] := fun e => hn (by rw [e]; rfl)
              simpa using this
            obtain ⟨q1, q2, q3⟩ := other_add h1 hf (by decide) (hb (by decide))
            refine ⟨q1, fun e => (by rw [q2] at e; cases e), ?_⟩
            rw [q3, write_len4, List.length_take]
            omega
          · cases hs
            obtain ⟨q1, q2, q3⟩ := plain_add (b := b) h1 (fun e => h2 e b rfl)
            have := dup_one b
            exact ⟨q1, fun e => (by rw [q2] at e; cases e), by omega⟩
theorem mm_fits : ∀ (n : Nat) (s : List UInt8) (i : Nat) (out m : List MarkD) (j : Nat), s.length ≤ n → MarkI out s i → mm s i out = (m, j, 0) → fitL (0, []) m = true ∧ (m.flatMap writeM).length ≤ 2 * (i + s.length)
  | 0, s, i, out, m, j, hn, hI, h => by
    obtain rfl : s = [] := List.eq_nil_of_length_eq_zero (by omega)
    rw [mm_nil] at h
    cases h
    exact ⟨hI.fit, by have := hI.len; rw [List.length_nil]; omega⟩
  | n + 1, s, i, out, m, j, hn, hI, h => by
    by_cases hs : s = []
    · subst hs
      rw [mm_nil] at h
      cases h
      exact ⟨hI.fit, by have := hI.len; rw [List.length_nil]; omega⟩
    · cases hm : mstep s with
      | none =>
        rw [mm_bad hs hm] at h
        cases h
      | some r =>
        obtain ⟨k, t, c⟩ := r
        have hp := mstep_pos hm
        rw [mm_next hm] at h
        obtain ⟨q1, q2⟩ := mm_fits n (s.drop c) (i + c) _ m j (by rw [List.length_drop]; omega) (hI.step hm) h
        rw [List.length_drop] at q2
        exact ⟨q1, by omega⟩
/-- the marks of a short text can be written -/
theorem marks_fine {text : List UInt8} {m : List MarkD} {i : Nat} (h : marksS text = (m, i, 0)) (hn : text.length ≤ 20000) : (unmarkS m).2 = 0 := by
  unfold marksS at h
  rw [if_neg (by omega)] at h
  obtain ⟨q1, q2⟩ := mm_fits text.length text 0 [] m i (Nat.le_refl _) ⟨rfl, fun e => absurd e (by decide), by simp⟩ h
  unfold unmarkS
  rw [q1, if_neg (by simp), if_neg (by omega)]
end Go.Proofs.Ythkeggmloajapaa
