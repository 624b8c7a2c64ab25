/- Files read as one unit: every file that is taken has a text; an error has a code. -/
import Derived.Test.YtignhjfobcnloaaPlainB
namespace Go.Proofs.Ytignhjfobcnloaa
theorem takeS_named {fs : List UInt8 → Option (List UInt8)} : ∀ (f : Nat) (x y : RdS) (name : List UInt8), (fs name).isSome = true → takeS fs f x name = .inl y → (∀ t ∈ x.files, (fs t).isSome = true) → ∀ t ∈ y.files, (fs t).isSome = true := by
  intro f
  induction f with
  | zero => intro x y name _ h; simp [takeS] at h
  | succ f ih =>
    intro x y name hn h hi
    unfold takeS at h
    split at h
    · cases h
    · split at h
      · rename_i s hs
        cases h
        refine runR_ind (I := fun z => ∀ t ∈ z.files, (fs t).isSome = true) (inc := incS fs name (takeS fs f)) (name := name) (file := x.files.length) (ws := (stripS ((fs name).getD [])).1) (fun z a b y hz hI => ?_) (fun z c hI => hI) (fun z w _ hI => hI)
          _ _ _ (fun w hw => mem_merge _ _ w hw) hs ?_
        · unfold incS at hz
          split at hz
          · cases hz; exact hI
          · split at hz
            · cases hz
            · rename_i text htx
              split at hz
              · cases hz
              · split at hz
                · cases hz
                · rename_i q hq
                  split at hz
                  · cases hz; exact ih _ _ _ (by rw [htx]; rfl) hq hI
                  · cases hz
        · intro t ht
          rcases List.mem_append.1 ht with ht | ht
          · exact hi t ht
          · simp at ht
            rw [ht]; exact hn
      · cases h
theorem readS_named {fs : List UInt8 → Option (List UInt8)} {main : List UInt8} {u : RdS} (h : readS fs main = .inl u) : (fs main).isSome = true ∧ ∀ t ∈ u.files, (fs t).isSome = true := by
  unfold readS at h
  split at h
  · cases h
  · rename_i text htx
    have h1 : (fs main).isSome = true := by rw [htx]; rfl
    exact ⟨h1, takeS_named 41 _ _ _ h1 h (by simp)⟩
theorem runR_err {f : RunD → PieceD → RunD ⊕ ErrD} {I : RunD → Prop} {P : ErrD → Prop} (hI : ∀ s p t, I s → f s p = .inl t → I t) (hE : ∀ s p e, I s → f s p = .inr e → P e) : ∀ (l : List PieceD) (s : RunD) (e : ErrD), I s → runR f s l = .inr e → P e := by
  intro l
  induction l with
  | nil => intro s e _ h; simp [runR] at h
  | cons p l ih =>
    intro s e hs h
    unfold runR at h
    split at h
    · rename_i e' he
      cases h
      exact hE _ _ _ hs he
    · rename_i t ht
      exact ih t e (hI _ _ _ hs ht) h
theorem wrongW_ne {ws : List TokD} {x : RdS} {w : TokD} {i : Nat} {e : Int × Int} (h : wrongW ws x w i = some e) : e.2 ≠ 0 := by
  unfold wrongW at h
  repeat' split at h
  all_goals (cases h <;> simp)
theorem takeS_err {fs : List UInt8 → Option (List UInt8)} : ∀ (f : Nat) (x : RdS) (name : List UInt8) (e : ErrD), 41 ≤ f + x.files.length → x.files.length < 40 → takeS fs f x name = .inr e → e.2.2 ≠ 0 := by
  intro f
  induction f with
  | zero => intro x name e h1 h2; omega
  | succ f ih =>
    intro x name e h1 h2 h
    unfold takeS at h
    split at h
    · rename_i he
      cases h
      exact he
    · split at h
      · cases h
      · rename_i e' he
        cases h
        refine runR_err (I := fun s => x.files.length + 1 ≤ s.1.files.length) (P := fun e => e.2.2 ≠ 0) (fun s p t hs hp => ?_) (fun s p e hs hp => ?_) _ _ _ (by show x.files.length + 1 ≤ (x.files ++ [name]).length; simp) he
        · have := (stepR_more (incS_more fs f name) hp).2.2.1.length_le
          omega
        · obtain ⟨z, cmd, next⟩ := s
          cases p with
          | inr c => simp [stepR] at hp
          | inl w =>
            match cmd, hp with
            | [], hp =>
              simp only [stepR] at hp
              split at hp
              · rename_i p z hw
                cases hp
                exact wrongW_ne hw
              · split at hp <;> cases hp
            | [a], hp => simp [stepR] at hp
            | a :: b :: r, hp =>
              simp only [stepR] at hp
              split at hp
              · cases hp
              · rename_i e2 he2
                cases hp
                unfold incS at he2
                split at he2
                · cases he2
                · split at he2
                  · cases he2; simp
                  · split at he2
                    · cases he2; simp
                    · rename_i h40
                      split at he2
                      · rename_i e3 he3
                        cases he2
                        exact ih z b.1 _ (by dsimp only at hs; omega) (by omega) he3
                      · split at he2
                        · cases he2
                        · cases he2; simp
theorem readS_err {fs : List UInt8 → Option (List UInt8)} {main : List UInt8} {e : ErrD} (h : readS fs main = .inr e) : e.2.2 ≠ 0 := by
  unfold readS at h
  split at h
  · cases h; simp
  · exact takeS_err 41 _ _ _ (by simp) (by simp) h
end Go.Proofs.Ytignhjfobcnloaa
