/- The marks of a comment's text: written and read again. -/
import Derived.Test.YthkeggmloajapaaMarkPlain
namespace Go.Proofs.Ythkeggmloajapaa
def mm (s : List UInt8) (i : Nat) (out : List MarkD) : List MarkD × Nat × Int := mrun s.length s i out
theorem mm_nil (i : Nat) (out : List MarkD) : mm [] i out = (out, 0, 0) := rfl
theorem mm_next {s : List UInt8} {i : Nat} {out : List MarkD} {k : Int} {t : List UInt8} {c : Nat} (h : mstep s = some (k, t, c)) : mm s i out = mm (s.drop c) (i + c) (addM out k t) := by
  have hp := mstep_pos h
  unfold mm
  obtain ⟨n, hn⟩ : ∃ n, s.length = n + 1 := ⟨s.length - 1, by omega⟩
  rw [hn, mrun, if_neg (by intro e; subst e; simp at hn), h]
  exact mrun_fuel _ _ _ _ _ (by rw [List.length_drop]; omega) (by rw [List.length_drop]; omega)
theorem mm_bad {s : List UInt8} {i : Nat} {out : List MarkD} (hs : s ≠ []) (h : mstep s = none) : mm s i out = ([], i, 45) := by
  unfold mm
  obtain ⟨n, hn⟩ : ∃ n, s.length = n + 1 := ⟨s.length - 1, by have := List.length_pos_iff.2 hs; omega⟩
  rw [hn, mrun, if_neg hs, h]
def lastM (b : MarkD) (out : List MarkD) : MarkD := out.getLast?.getD b
theorem addM_other {out : List MarkD} {k : Int} {t : List UInt8} (h : ¬ (k = 1 ∧ (lastM (0, []) out).1 = 1)) : addM out k t = out ++ [(k, t)] := by
  unfold addM
  unfold lastM at h
  split
  · rename_i m hm
    rw [hm] at h
    exact if_neg h
  · rfl
theorem addM_plain {out : List MarkD} {u t : List UInt8} : addM (out ++ [(1, u)]) 1 t = out ++ [(1, u ++ t)] := by
  unfold addM
  rw [List.getLast?_concat]
  simp
theorem sp_special {b : UInt8} (h : sp b = true) : special b = false := by
  have key : ∀ n : Nat, n < 256 → sp (UInt8.ofNat n) = true → special (UInt8.ofNat n) = false := by decide +kernel
  have := key b.toNat b.toNat_lt
  rw [UInt8.ofNat_toNat] at this
  exact this h
theorem mstep_dup {b : UInt8} (hb : special b = true) (r : List UInt8) : mstep (b :: b :: r) = some (1, [b], 2) := by
  rw [mstep_cons, if_pos ⟨hb, rfl⟩]
theorem mstep_one {b : UInt8} (hb : special b = false) (r : List UInt8) : mstep (b :: r) = some (1, [b], 1) := by
  have h : b ≠ 96 ∧ b ≠ 126 ∧ b ≠ 91 := by
    unfold special at hb
    simpa using hb
  rw [mstep_cons, if_neg (by simp [hb]), if_neg h.1, if_neg h.2.1, if_neg (fun e => h.2.2 e.1)]
/-- plain text behind plain text -/
theorem plain_run : ∀ (t u rest : List UInt8) (i : Nat) (out : List MarkD), mm (dupS t ++ rest) i (out ++ [(1, u)]) = mm rest (i + (dupS t).length) (out ++ [(1, u ++ t)])
  | [], u, rest, i, out => by simp [dupS]
  | b :: t, u, rest, i, out => by
    have ih := fun j => plain_run t (u ++ [b]) rest j out
    by_cases hb : special b = true
    · have e : dupS (b :: t) = b :: b :: dupS t := by simp [dupS, hb]
      rw [e, List.cons_append, List.cons_append, mm_next (mstep_dup hb _), addM_plain]
      simp only [List.drop_succ_cons, List.drop_zero]
      rw [ih]
      simp
      congr 1
      omega
    · have hb : special b = false := by simpa using hb
      have e : dupS (b :: t) = b :: dupS t := by simp [dupS, hb]
      rw [e, List.cons_append, mm_next (mstep_one hb _), addM_plain]
      simp only [List.drop_succ_cons, List.drop_zero]
      rw [ih]
      simp
      congr 1
      omega
theorem plain_mark {t : List UInt8} (ht : t ≠ []) (rest : List UInt8) (i : Nat) {out : List MarkD} (ho : (lastM (0, []) out).1 ≠ 1) : mm (dupS t ++ rest) i out = mm rest (i + (dupS t).length) (out ++ [(1, t)]) := by
  obtain ⟨b, t, rfl⟩ := List.exists_cons_of_ne_nil ht
  have ha : addM out 1 [b] = out ++ [(1, [b])] := addM_other fun h => ho h.2
  by_cases hb : special b = true
  · have e : dupS (b :: t) = b :: b :: dupS t := by simp [dupS, hb]
    rw [e, List.cons_append, List.cons_append, mm_next (mstep_dup hb _), ha]
    simp only [List.drop_succ_cons, List.drop_zero]
    rw [plain_run]
    simp
    congr 1
    omega
  · have hb : special b = false := by simpa using hb
    have e : dupS (b :: t) = b :: dupS t := by simp [dupS, hb]
    rw [e, List.cons_append, mm_next (mstep_one hb _), ha]
    simp only [List.drop_succ_cons, List.drop_zero]
    rw [plain_run]
    simp
    congr 1
    omega
theorem takeWhile_stop {α : Type} (p : α → Bool) : ∀ (t : List α) (r : List α), (∀ x ∈ t, p x = true) → (∀ y, r.head? = some y → p y = false) → (t ++ r).takeWhile p = t
  | [], r, _, h => by
    cases r with
    | nil => rfl
    | cons y r => rw [List.nil_append, List.takeWhile_cons_of_neg (by simp [h y rfl])]
  | x :: t, r, h1, h2 => by
    rw [List.cons_append, List.takeWhile_cons_of_pos (h1 x (by simp)), takeWhile_stop p t r (fun y hy => h1 y (by simp [hy])) h2]
/-- a mark that is no plain text -/
theorem other_mark {m : MarkD} (hf : formM m = true) (hk : m.1 ≠ 1) (rest : List UInt8) (hr : m.1 = 3 → ∀ y, rest.head? = some y → sp y = true) : mstep (writeM m ++ rest) = some (m.1, m.2, (writeM m).length) := by
  obtain ⟨k, t⟩ := m
  dsimp only at hk hr ⊢
  unfold formM at hf
  dsimp only at hf
  rw [Bool.and_eq_true] at hf
  obtain ⟨hne, hf⟩ := hf
  have hne : t ≠ [] := by simpa using hne
  rw [if_neg hk] at hf
  by_cases h2 : k = 2
  · subst h2
    have hf : ∀ x ∈ t, x ≠ 96 := by simpa using hf
    obtain ⟨b, u, rfl⟩ := List.exists_cons_of_ne_nil hne
    have e1 : writeM (2, b :: u) ++ rest = 96 :: ((b :: u) ++ 96 :: rest) := by simp [writeM]
    have e2 : mathT ((b :: u) ++ 96 :: rest) = b :: u := takeWhile_stop _ _ _ (fun x hx => by simpa using hf x hx) (fun y hy => by simp at hy; simp [← hy])
    rw [e1, mstep_cons, if_neg (by simp; exact fun _ => hf b (by simp)), if_pos rfl, e2, if_neg (by simp)]
    simp [writeM]
  · rw [if_neg h2] at hf
    by_cases h3 : k = 3
    · subst h3
      have hf : ∀ x ∈ t, sp x = false := by simpa using hf
      have e1 : writeM (3, t) ++ rest = 126 :: ([32] ++ (t ++ rest)) := by simp [writeM]
      obtain ⟨b, u, rfl⟩ := List.exists_cons_of_ne_nil hne
      have e2 : ([32] ++ ((b :: u) ++ rest)).takeWhile sp = [32] := takeWhile_stop _ _ _ (fun x hx => by simp at hx; subst hx; decide) (fun y hy => by simp at hy; subst hy; exact hf _ (by simp))
      have e3 : refW ([32] ++ ((b :: u) ++ rest)) = 1 := by unfold refW; rw [e2]; rfl
      have e4 : refT ([32] ++ ((b :: u) ++ rest)) = b :: u := by
        unfold refT
        rw [e3]
        exact takeWhile_stop (fun c => !sp c) _ _ (fun x hx => by rw [hf x hx]; rfl) (fun y hy => by rw [hr rfl y hy]; rfl)
      rw [e1, mstep_cons, if_neg (by simp), if_neg (by decide), if_pos rfl, e3, e4, if_neg (by simp)]
      simp [writeM]
      omega
    · rw [if_neg h3] at hf
      by_cases h4 : k = 4
      · subst h4
        have hf : ∀ x ∈ t, citeP x = true := by simpa using hf
        have e1 : writeM (4, t) ++ rest = 91 :: (t ++ 93 :: rest) := by simp [writeM]
        have e2 : (t ++ 93 :: rest).takeWhile citeP = t := takeWhile_stop _ _ _ hf (fun y hy => by simp at hy; subst hy; decide)
        have e3 : citeN (t ++ 93 :: rest) = t.length := by
          unfold citeN
          rw [e2, if_pos (by simp)]
        obtain ⟨b, u, rfl⟩ := List.exists_cons_of_ne_nil hne
        have hb : b ≠ 91 := fun e => by
          have := hf b (by simp)
          rw [e] at this
          exact absurd this (by decide)
        rw [e1, mstep_cons, if_neg (by simp; exact fun _ => hb), if_neg (by decide), if_neg (by decide), e3, if_pos ⟨rfl, by simp⟩]
        simp [writeM]
      · rw [if_neg h4] at hf
        cases hf
theorem lastM_snoc (b m : MarkD) (l : List MarkD) : lastM b (l ++ [m]) = m := by unfold lastM; rw [List.getLast?_concat]; rfl
/-- what stands behind a reference -/
theorem behind_refer {m : MarkD} (hk : m.1 = 3) : ∀ {l : List MarkD}, fitL m l = true → ∀ y, (l.flatMap writeM).head? = some y → sp y = true
  | [], _, y, hy => by simp at hy
  | x :: l, h, y, hy => by
    rw [fitL, Bool.and_eq_true, Bool.and_eq_true] at h
    obtain ⟨⟨h1, h2⟩, -⟩ := h
    unfold fitM at h2
    rw [hk] at h2
    simp at h2
    obtain ⟨hx, hs⟩ := h2
    obtain ⟨k, t⟩ := x
    dsimp only at hx hs
    subst hx
    cases t with
    | nil => simp at hs
    | cons b t =>
      have hs : sp b = true := by simpa using hs
      have e : (List.flatMap writeM ((1, b :: t) :: l)).head? = some b := by
        rw [List.flatMap_cons]
        simp [writeM, dupS, sp_special hs]
      rw [e] at hy
      cases hy
      exact hs
/-- marks that are written are read again -/
theorem mm_written : ∀ (l : List MarkD) (i : Nat) (out : List MarkD), fitL (lastM (0, []) out) l = true → mm (l.flatMap writeM) i out = (out ++ l, 0, 0)
  | [], i, out, _ => by simp [mm_nil]
  | m :: l, i, out, h => by
    rw [fitL, Bool.and_eq_true, Bool.and_eq_true] at h
    obtain ⟨⟨h1, h2⟩, h3⟩ := h
    rw [List.flatMap_cons]
    have ih := fun j => mm_written l j (out ++ [m]) (by rw [lastM_snoc]; exact h3)
    by_cases hk : m.1 = 1
    · have hl : (lastM (0, []) out).1 ≠ 1 := fun e => by
        unfold fitM at h2
        rw [hk, e] at h2
        simp at h2
      obtain ⟨k, t⟩ := m
      dsimp only at hk
      subst hk
      have ht : t ≠ [] := fun e => by subst e; simp [formM] at h1
      have e : writeM (1, t) = dupS t := rfl
      rw [e, plain_mark ht _ _ hl, ih]
      simp
    · rw [mm_next (other_mark h1 hk _ fun e => behind_refer e h3), addM_other fun e => hk e.1, List.drop_left, ih]
      simp
theorem marked_back {l : List MarkD} {s : List UInt8} (h : unmarkS l = (s, 0)) : marksS s = (l, 0, 0) := by
  unfold unmarkS at h
  split at h
  · exact absurd (congrArg Prod.snd h) (show ¬ ((2 : Int) = 0) by decide)
  · rename_i h1
    split at h
    · exact absurd (congrArg Prod.snd h) (show ¬ ((15 : Int) = 0) by decide)
    · rename_i h2
      obtain rfl : l.flatMap writeM = s := congrArg Prod.fst h
      unfold marksS
      rw [if_neg h2]
      exact mm_written l 0 [] (by simpa [lastM] using h1)
end Go.Proofs.Ythkeggmloajapaa
