/- A comment inserted ahead of a word; a text without include commands: plain laws. A comment inserted ahead of a word: the words and the comments behind it. No file is taken twice; each word stands in its file; the same include command once more at the end: plain laws. -/
import Derived.Test.YtignhjfobcnloaaSrcPlain2
section
namespace Go.Proofs.Ytignhjfobcnloaa
/-- nothing of a word lies on both sides -/
def Parted (a b : List UInt8) : Prop := (∀ x, a.getLast? = some x → sp x = true) ∨ (∀ x, b.head? = some x → sp x = true)
theorem span_app {p : UInt8 → Bool} : ∀ (t b : List UInt8), (t.dropWhile p ≠ [] ∨ ∀ x, b.head? = some x → p x = false) → (t ++ b).takeWhile p = t.takeWhile p ∧ (t ++ b).dropWhile p = t.dropWhile p ++ b := by
  intro t
  induction t with
  | nil =>
    intro b h
    rcases h with h | h
    · simp at h
    · cases b with
      | nil => simp
      | cons c b => have := h c rfl; simp [this]
  | cons c t ih =>
    intro b h
    by_cases hc : p c = true
    · have h2 : t.dropWhile p ≠ [] ∨ ∀ x, b.head? = some x → p x = false := h.imp (fun h => by simpa [List.dropWhile_cons, hc] using h) id
      obtain ⟨i1, i2⟩ := ih b h2
      simp [hc, i1, i2]
    · simp [hc]
theorem drop_nil_last {p : UInt8 → Bool} : ∀ (t : List UInt8) (c : UInt8), p c = true → t.dropWhile p = [] → ∀ x, (c :: t).getLast? = some x → p x = true := by
  intro t
  induction t with
  | nil => intro c hc _ x hx; simp at hx; rw [← hx]; exact hc
  | cons d t ih =>
    intro c hc h x hx
    have hd : p d = true := by
      by_cases hd : p d = true
      · exact hd
      · simp [hd] at h
    rw [List.dropWhile_cons, if_pos hd] at h
    exact ih d hd h x (by simpa using hx)
theorem last_drop {p : UInt8 → Bool} : ∀ (t : List UInt8) (c x : UInt8), (t.dropWhile p).getLast? = some x → (c :: t).getLast? = some x := by
  intro t
  induction t with
  | nil => intro c x h; simp at h
  | cons d t ih =>
    intro c x h
    rw [List.dropWhile_cons] at h
    rw [List.getLast?_cons_cons]
    split at h
    · exact ih d x h
    · exact h
theorem toks_append : ∀ (n : Nat) (a b : List UInt8) (k : Nat), a.length ≤ n → Parted a b → toks k (a ++ b) = toks k a ++ toks (k + a.length) b := by
  intro n
  induction n with
  | zero => intro a b k h _; obtain rfl : a = [] := List.length_eq_zero_iff.1 (by omega); simp [toks_nil]
  | succ n ih =>
    intro a b k h hp
    cases a with
    | nil => simp [toks_nil]
    | cons c t =>
      simp only [List.length_cons] at h
      rw [List.cons_append]
      by_cases hc : sp c = true
      · rw [toks_sp hc, toks_sp hc]
        have hp2 : Parted t b := by
          rcases hp with hp | hp
          · left
            intro x hx
            cases t with
            | nil => simp at hx
            | cons d t => exact hp x (by rw [List.getLast?_cons_cons]; exact hx)
          · exact .inr hp
        rw [ih t b (k + 1) (by omega) hp2, List.length_cons]
        congr 2
        omega
      · have hc' : sp c = false := by simpa using hc
        have hside : t.dropWhile (fun c => !sp c) ≠ [] ∨ ∀ x, b.head? = some x → (!sp x) = false := by
          by_cases hd : t.dropWhile (fun c => !sp c) = []
          · right
            rcases hp with hp | hp
            · exfalso
              obtain ⟨x, hx⟩ : ∃ x, (c :: t).getLast? = some x := ⟨_, List.getLast?_eq_some_getLast (by simp)⟩
              have h1 := hp x hx
              have h2 := drop_nil_last (p := fun c => !sp c) t c (by simp [hc']) hd x hx
              simp [h1] at h2
            · intro x hx; simp [hp x hx]
          · exact .inl hd
        obtain ⟨e1, e2⟩ := span_app (p := fun c => !sp c) t b hside
        rw [toks_cons hc', toks_cons hc', e1, e2]
        have hl : (t.takeWhile fun c => !sp c).length + (t.dropWhile fun c => !sp c).length = t.length := by rw [← List.length_append, List.takeWhile_append_dropWhile]
        have hp2 : Parted (t.dropWhile fun c => !sp c) b := by
          rcases hp with hp | hp
          · exact .inl fun x hx => hp x (last_drop t c x hx)
          · exact .inr hp
        rw [ih _ b _ (by omega) hp2, List.cons_append, List.length_cons]
        congr 3
        omega
theorem toks_shift : ∀ (n : Nat) (s : List UInt8) (k d : Nat), s.length ≤ n → toks (k + d) s = (toks k s).map fun t => (t.1, t.2 + d) := by
  intro n
  induction n with
  | zero => intro s k d h; obtain rfl : s = [] := List.length_eq_zero_iff.1 (by omega); simp [toks_nil]
  | succ n ih =>
    intro s k d h
    cases s with
    | nil => simp [toks_nil]
    | cons c t =>
      simp only [List.length_cons] at h
      by_cases hc : sp c = true
      · rw [toks_sp hc, toks_sp hc, show k + d + 1 = k + 1 + d by omega, ih t _ _ (by omega)]
      · have hc' : sp c = false := by simpa using hc
        have h2 := (List.dropWhile_sublist (fun c => !sp c) (l := t)).length_le
        rw [toks_cons hc', toks_cons hc', show k + d + 1 + (t.takeWhile fun c => !sp c).length = k + 1 + (t.takeWhile fun c => !sp c).length + d by omega, ih _ _ _ (by omega)]
        rfl
theorem toks_text (s : List UInt8) (k j : Nat) : (toks k s).map (·.1) = (toks j s).map (·.1) := by
  have key : ∀ d, (toks d s).map (·.1) = (toks 0 s).map (·.1) := fun d => by
    have := toks_shift _ s 0 d (Nat.le_refl _)
    rw [Nat.zero_add] at this
    rw [this, List.map_map]
    rfl
  rw [key k, key j]
/-- the text of a word is what stands there -/
theorem toks_read : ∀ (n : Nat) (s : List UInt8) (k : Nat), s.length ≤ n → ∀ t ∈ toks k s, k ≤ t.2 ∧ t.1 <+: s.drop (t.2 - k) ∧ (t.2 = k ∨ ∃ b, s[t.2 - k - 1]? = some b ∧ k < t.2 ∧ sp b = true) := by
  intro n
  induction n with
  | zero => intro s k h t ht; obtain rfl : s = [] := List.length_eq_zero_iff.1 (by omega); rw [toks_nil] at ht; cases ht
  | succ n ih =>
    intro s k h t ht
    cases s with
    | nil => rw [toks_nil] at ht; cases ht
    | cons c r =>
      simp only [List.length_cons] at h
      by_cases hc : sp c = true
      · rw [toks_sp hc] at ht
        obtain ⟨i1, i2, i3⟩ := ih r (k + 1) (by omega) t ht
        refine ⟨by omega, ?_, ?_⟩
        · rw [show t.2 - k = (t.2 - (k + 1)) + 1 by omega, List.drop_succ_cons]; exact i2
        · right
          rcases i3 with e | ⟨b, hb, hlt, hs⟩
          · exact ⟨c, by rw [show t.2 - k - 1 = 0 by omega]; rfl, by omega, hc⟩
          · exact ⟨b, by rw [show t.2 - k - 1 = (t.2 - (k + 1) - 1) + 1 by omega, List.getElem?_cons_succ]; exact hb, by omega, hs⟩
      · have hc' : sp c = false := by simpa using hc
        rw [toks_cons hc'] at ht
        rcases List.mem_cons.1 ht with rfl | ht
        · exact ⟨Nat.le_refl _, by rw [Nat.sub_self, List.drop_zero]; exact List.cons_prefix_cons.2 ⟨rfl, List.takeWhile_prefix _⟩, .inl rfl⟩
        · have h2 := (List.dropWhile_sublist (fun c => !sp c) (l := r)).length_le
          obtain ⟨m, hm⟩ : ∃ m, m = (r.takeWhile fun c => !sp c).length := ⟨_, rfl⟩
          rw [← hm] at ht
          have hdr : r.dropWhile (fun c => !sp c) = r.drop m := by
            have := List.takeWhile_append_dropWhile (p := fun c => !sp c) (l := r)
            have h3 : (r.takeWhile (fun c => !sp c) ++ r.dropWhile (fun c => !sp c)).drop m = r.dropWhile (fun c => !sp c) := by rw [hm, List.drop_left]
            rw [this] at h3
            exact h3.symm
          obtain ⟨i1, i2, i3⟩ := ih _ (k + 1 + m) (by omega) t ht
          rw [hdr] at i2 i3
          rw [List.drop_drop] at i2
          refine ⟨by omega, ?_, ?_⟩
          · rw [show t.2 - k = (t.2 - (k + 1)) + 1 by omega, List.drop_succ_cons, show t.2 - (k + 1) = m + (t.2 - (k + 1 + m)) by omega]; exact i2
          · right
            rcases i3 with e | ⟨b, hb, hlt, hs⟩
            · have hne : r.drop m ≠ [] := by
                intro h0
                rw [hdr, h0, toks_nil] at ht
                cases ht
              rw [← hdr] at hne
              have hhead := List.head?_dropWhile_not (fun c => !sp c) r
              obtain ⟨b, hb⟩ : ∃ b, (r.dropWhile fun c => !sp c).head? = some b := by
                cases h0 : r.dropWhile fun c => !sp c with
                | nil => exact absurd h0 hne
                | cons b _ => exact ⟨b, rfl⟩
              exfalso
              rw [hb] at hhead
              have hsb : sp b = true := by simpa using hhead
              have h0 : ∃ q, r.dropWhile (fun c => !sp c) = b :: q := by
                cases h0 : r.dropWhile fun c => !sp c with
                | nil => exact absurd h0 hne
                | cons b' q => rw [h0] at hb; simp at hb; exact ⟨q, by rw [hb]⟩
              obtain ⟨q, hq⟩ := h0
              rw [hq, toks_sp hsb] at ht
              have := (toks_where _ q (k + 1 + m + 1) (Nat.le_refl _)).1 t ht
              omega
            · rw [List.getElem?_drop] at hb
              exact ⟨b, by rw [show t.2 - k - 1 = (m + (t.2 - (k + 1 + m) - 1)) + 1 by omega, List.getElem?_cons_succ]; exact hb, by omega, hs⟩
end Go.Proofs.Ytignhjfobcnloaa
end
section
namespace Go.Proofs.Ytignhjfobcnloaa
/-- the same words, d comments more, a comment open in both or in none -/
def SimS (d : Nat) (x y : StD) : Prop := x.1.map (·.1) = y.1.map (·.1) ∧ x.2.1.length + d = y.2.1.length ∧ x.2.2.isSome = y.2.2.isSome
theorem sstep_sim {text text' : List UInt8} {d : Nat} {x y : StD} {t t' : TokD} {z : StD} (h : SimS d x y) (ht : t.1 = t'.1) (hz : sstep text x t = .inl z) : ∃ z', sstep text' y t' = .inl z' ∧ SimS d z z' := by
  obtain ⟨w, c, o⟩ := x
  obtain ⟨w', c', o'⟩ := y
  obtain ⟨tt, ta⟩ := t
  obtain ⟨tt', ta'⟩ := t'
  obtain rfl : tt = tt' := ht
  obtain ⟨h1, h2, h3⟩ := h
  dsimp only at h1 h2 h3
  unfold sstep at hz ⊢
  dsimp only at hz ⊢
  split at hz
  · cases hz
  · rename_i hn
    rw [if_neg hn]
    split at hz
    · rename_i ho
      rw [if_pos ho]
      cases o with
      | some i => simp at hz
      | none =>
        cases o' with
        | some i => simp at h3
        | none => simp at hz; subst hz; exact ⟨_, rfl, h1, h2, rfl⟩
    · rename_i ho
      rw [if_neg ho]
      split at hz
      · rename_i hc
        rw [if_pos hc]
        cases o with
        | none => simp at hz
        | some i =>
          cases o' with
          | none => simp at h3
          | some j => simp at hz; subst hz; exact ⟨_, rfl, h1, by simp; omega, rfl⟩
      · rename_i hc
        rw [if_neg hc]
        cases o with
        | none =>
          cases o' with
          | some i => simp at h3
          | none => simp at hz; subst hz; exact ⟨_, rfl, by simp [h1], h2, rfl⟩
        | some i =>
          cases o' with
          | none => simp at h3
          | some j => simp at hz; subst hz; exact ⟨_, rfl, h1, h2, rfl⟩
theorem srun_sim {text text' : List UInt8} {d : Nat} : ∀ (l l' : List TokD) (x y z : StD), l.map (·.1) = l'.map (·.1) → SimS d x y → srun text x l = .inl z → ∃ z', srun text' y l' = .inl z' ∧ SimS d z z' := by
  intro l
  induction l with
  | nil =>
    intro l' x y z hl h hz
    cases l' with
    | nil => simp [srun] at hz; subst hz; exact ⟨y, rfl, h⟩
    | cons t l' => simp at hl
  | cons t l ih =>
    intro l' x y z hl h hz
    cases l' with
    | nil => simp at hl
    | cons t' l' =>
      simp only [List.map_cons, List.cons.injEq] at hl
      unfold srun at hz
      split at hz
      · cases hz
      · rename_i u hu
        obtain ⟨u', hu', hs⟩ := sstep_sim (text' := text') h hl.1 hu
        obtain ⟨z', hz', hs'⟩ := ih l' u u' z hl.2 hs hz
        exact ⟨z', by rw [srun, hu']; exact hz', hs'⟩
theorem srun_append {text : List UInt8} : ∀ (a b : List TokD) (x : StD), srun text x (a ++ b) = match srun text x a with | .inl y => srun text y b | .inr e => .inr e := by
  intro a
  induction a with
  | nil => intro b x; rfl
  | cons t a ih =>
    intro b x
    rw [List.cons_append, srun, srun]
    cases sstep text x t with
    | inr e => rfl
    | inl y => exact ih b y
/-- the words come out of the tokens -/
theorem srun_words {text : List UInt8} : ∀ (l : List TokD) (x y : StD), srun text x l = .inl y → ∀ w ∈ y.1, w ∈ x.1 ∨ w ∈ l := by
  intro l
  induction l with
  | nil => intro x y h w hw; simp [srun] at h; subst h; exact .inl hw
  | cons t l ih =>
    intro x y h w hw
    unfold srun at h
    split at h
    · cases h
    · rename_i z hz
      rcases ih z y h w hw with h2 | h2
      · obtain ⟨a, c, o⟩ := x
        have hz1 : z.1 = a ∨ z.1 = a ++ [t] := by
          unfold sstep at hz
          split at hz
          · cases hz
          · split at hz
            · cases o <;> simp at hz; subst hz; exact .inl rfl
            · split at hz
              · cases o <;> simp at hz; subst hz; exact .inl rfl
              · cases o
                · simp at hz; subst hz; exact .inr rfl
                · simp at hz; subst hz; exact .inl rfl
        rcases hz1 with e | e
        · rw [e] at h2; exact .inl h2
        · rw [e] at h2
          rcases List.mem_append.1 h2 with h2 | h2
          · exact .inl h2
          · simp at h2; exact .inr (by rw [h2]; exact List.mem_cons_self ..)
      · exact .inr (List.mem_cons_of_mem _ h2)
/-- where a word begins no comment is open -/
theorem srun_none {text : List UInt8} {l : List TokD} {t : TokD} {x y : StD} (hp : (t :: l).Pairwise (fun a b => a.2 < b.2)) (hx : ∀ w ∈ x.1, w.2 < t.2) (h : srun text x (t :: l) = .inl y) (ht : ∃ w ∈ y.1, w.2 = t.2) : x.2.2 = none := by
  obtain ⟨w, hw, e⟩ := ht
  obtain ⟨a, c, o⟩ := x
  cases o with
  | none => rfl
  | some i =>
    exfalso
    unfold srun at h
    split at h
    · cases h
    · rename_i z hz
      have hz1 : z.1 = a := by
        unfold sstep at hz
        split at hz
        · cases hz
        · split at hz
          · simp at hz
          · split at hz
            · simp at hz; subst hz; rfl
            · simp at hz; subst hz; rfl
      rcases srun_words l z y h w hw with h2 | h2
      · rw [hz1] at h2
        have := hx w h2
        omega
      · have := (List.pairwise_cons.1 hp).1 w h2
        omega
/-- tokens without a dollar sign in an open comment -/
theorem srun_note {text : List UInt8} : ∀ (l : List TokD) (w : List TokD) (c : List ComD) (i : Nat), (∀ t ∈ l, (36 : UInt8) ∉ t.1) → srun text (w, c, some i) l = .inl (w, c, some i) := by
  intro l
  induction l with
  | nil => intro w c i _; rfl
  | cons t l ih =>
    intro w c i h
    have ht := h t (List.mem_cons_self ..)
    have hC : ¬ (2 < t.1.length ∧ hasC t.1 = true) := by
      rintro ⟨_, h2⟩
      unfold hasC at h2
      rw [Bool.or_eq_true, hasB_iff, hasB_iff] at h2
      rcases h2 with ⟨j, h3, _⟩ | ⟨j, h3, _⟩ <;> exact ht (List.mem_of_getElem? h3)
    rw [srun, sstep_skip hC (fun e => ht (by rw [e]; simp)) (fun e => ht (by rw [e]; simp))]
    exact ih w c i fun u hu => h u (List.mem_cons_of_mem _ hu)
def noteS (note : List UInt8) : List UInt8 := [36, 40, 32] ++ note ++ [32, 36, 41, 32]
theorem toks_note (note : List UInt8) (k : Nat) : ∃ a b, toks k (noteS note) = ([36, 40], a) :: (toks (k + 3) note ++ [([36, 41], b)]) := by
  have s32 : sp 32 = true := by decide
  have n36 : sp 36 = false := by decide
  have n40 : sp 40 = false := by decide
  have n41 : sp 41 = false := by decide
  unfold noteS
  rw [List.append_assoc, toks_append _ [36, 40, 32] _ k (Nat.le_refl _) (.inl fun x hx => by simp at hx; rw [← hx]; exact s32)]
  rw [toks_append _ note _ _ (Nat.le_refl _) (.inr fun x hx => by simp at hx; rw [← hx]; exact s32)]
  refine ⟨k, k + 3 + note.length + 1, ?_⟩
  have e1 : toks k [36, 40, 32] = [([36, 40], k)] := by simp [toks, s32, n36, n40]
  have e2 : ∀ j, toks j [32, 36, 41, 32] = [([36, 41], j + 1)] := fun j => by simp [toks, s32, n36, n41]
  rw [e1, e2]
  rfl
theorem mem_toks {n : Nat} : ∀ (s : List UInt8) (k : Nat), s.length ≤ n → ∀ t ∈ toks k s, ∀ b ∈ t.1, b ∈ s := fun s k h t ht b hb => by
  have := (toks_read _ s k (Nat.le_refl _) t ht).2.1
  exact List.mem_of_mem_drop (this.subset hb)
/-- Scan goes through -/
theorem scan_good {s : List UInt8} (h : (scanS s).2.2 = 0) : s.length ≤ 40000 ∧ (∀ b ∈ s, cls b.toNat ≠ 0) ∧ scanS s = (toks 0 s, 0, 0) := by
  unfold scanS at h ⊢
  split at h
  · simp at h
  · rename_i hl
    rw [if_neg hl]
    split at h
    · simp at h
    · rename_i hf
      rw [List.findIdx?_eq_none_iff] at hf
      split at h
      · simp at h
      · rename_i h8
        refine ⟨by omega, fun b hb => by simpa using hf b hb, ?_⟩
        first
          | rfl
          | (rw [List.findIdx?_eq_none_iff.2 hf]; dsimp only; rw [h8])
theorem scan_make {s : List UInt8} (h1 : s.length ≤ 8000) (h2 : ∀ b ∈ s, cls b.toNat ≠ 0) : scanS s = (toks 0 s, 0, 0) :=
  scanS_ok (by omega) (fun j y hy => h2 y (List.mem_of_getElem? hy)) rfl (Nat.le_trans (toks_len _ s 0 (Nat.le_refl _)) h1)
theorem strip_good {s : List UInt8} (h : (stripS s).2.2.2 = 0) : (scanS s).2.2 = 0 ∧ ∃ w c, srun s ([], [], none) (toks 0 s) = .inl (w, c, none) ∧ stripS s = (w, c, 0, 0) := by
  by_cases hz : (scanS s).2.2 = 0
  · have hg := (scan_good hz).2.2
    refine ⟨hz, ?_⟩
    cases hr : srun s ([], [], none) (scanS s).1 with
    | inr e =>
      rw [stripS_bad hz hr] at h
      have : e.2 = 0 := h
      exfalso
      have key : ∀ (l : List TokD) (x : StD) (e : Nat × Int), srun s x l = .inr e → e.2 ≠ 0 := by
        intro l
        induction l with
        | nil => intro x e h; simp [srun] at h
        | cons t l ih =>
          intro x e h
          unfold srun at h
          split at h
          · rename_i e' he
            cases h
            obtain ⟨a, c, o⟩ := x
            unfold sstep at he
            split at he
            · cases he; simp
            · split at he
              · cases o <;> simp at he; subst he; simp
              · split at he
                · cases o <;> simp at he; subst he; simp
                · cases o <;> simp at he
          · exact ih _ _ h
      exact key _ _ _ hr this
    | inl y =>
      obtain ⟨w, c, o⟩ := y
      cases o with
      | some i => rw [stripS_open hz hr] at h; simp at h
      | none => rw [hg] at hr; exact ⟨w, c, hr, stripS_ok hz (by rw [hg]; exact hr)⟩
  · rw [stripS_scan hz] at h; exact absurd h hz
/-- a comment ahead of a word -/
theorem note_law {text note : List UInt8} {t : TokD} (hs : (stripS text).2.2.2 = 0) (hn : (scanS note).2.2 = 0) (hl : text.length ≤ 2000) (hnl : note.length ≤ 200) (hd : (36 : UInt8) ∉ note) (ht : t ∈ (stripS text).1) :
    t.2 ≤ text.length ∧ ∃ l d, stripS (text.take t.2 ++ noteS note ++ text.drop t.2) = (l, d, 0, 0) ∧ l.map (·.1) = (stripS text).1.map (·.1) ∧ d.length = (stripS text).2.1.length + 1 := by
  obtain ⟨hz, w, c, hr, he⟩ := strip_good hs
  obtain ⟨_, hb, _⟩ := scan_good hz
  obtain ⟨_, hbn, _⟩ := scan_good hn
  rw [he] at ht ⊢
  dsimp only at ht ⊢
  have hmem : t ∈ toks 0 text := by
    rcases srun_words _ _ _ hr t ht with h | h
    · cases h
    · exact h
  obtain ⟨hw1, hw2⟩ := toks_where _ text 0 (Nat.le_refl _)
  have hin := hw1 t hmem
  obtain ⟨_, hpre, hst⟩ := toks_read _ text 0 (Nat.le_refl _) t hmem
  rw [Nat.sub_zero] at hpre hst
  have hle : t.2 ≤ text.length := by omega
  refine ⟨hle, ?_⟩
  obtain ⟨A, hA⟩ : ∃ A, A = text.take t.2 := ⟨_, rfl⟩
  obtain ⟨B, hB⟩ : ∃ B, B = text.drop t.2 := ⟨_, rfl⟩
  have hAB : text = A ++ B := by rw [hA, hB, List.take_append_drop]
  have hAl : A.length = t.2 := by rw [hA]; simp; omega
  have hpart : ∀ x, A.getLast? = some x → sp x = true := by
    intro x hx
    rcases hst with e | ⟨b, hb1, hlt, hb2⟩
    · rw [e] at hAl
      obtain rfl : A = [] := List.length_eq_zero_iff.1 hAl
      simp at hx
    · rw [List.getLast?_eq_getElem?, hAl, hA, List.getElem?_take_of_lt (by omega)] at hx
      rw [hb1] at hx
      cases hx
      exact hb2
  have s32 : sp 32 = true := by decide
  have htk : toks 0 text = toks 0 A ++ toks t.2 B := by
    have := toks_append _ A B 0 (Nat.le_refl _) (.inl hpart)
    rw [Nat.zero_add, hAl] at this
    rw [hAB]; exact this
  obtain ⟨X, hX⟩ : ∃ X, X = A ++ noteS note ++ B := ⟨_, rfl⟩
  rw [← hA, ← hB, ← hX]
  have htX : toks 0 X = toks 0 A ++ (toks t.2 (noteS note) ++ toks (t.2 + (noteS note).length) B) := by
    rw [hX, List.append_assoc, toks_append _ A _ 0 (Nat.le_refl _) (.inl hpart), Nat.zero_add, hAl, toks_append _ (noteS note) B _ (Nat.le_refl _) (.inl fun x hx => ?_)]
    unfold noteS at hx
    rw [List.getLast?_append] at hx
    simp at hx
    rw [← hx]; exact s32
  obtain ⟨pa, pb, hno⟩ := toks_note note t.2
  have hXs : scanS X = (toks 0 X, 0, 0) := by
    refine scan_make ?_ fun b hbX => ?_
    · rw [hX]
      have : (A ++ B).length ≤ 2000 := by rw [← hAB]; exact hl
      simp [noteS] at this ⊢
      omega
    · rw [hX] at hbX
      rcases List.mem_append.1 hbX with h | h
      · rcases List.mem_append.1 h with h | h
        · exact hb b (by rw [hAB]; exact List.mem_append.2 (.inl h))
        · unfold noteS at h
          rcases List.mem_append.1 h with h | h
          · rcases List.mem_append.1 h with h | h
            · simp at h; rcases h with rfl | rfl | rfl <;> decide
            · exact hbn b h
          · simp at h; rcases h with rfl | rfl | rfl | rfl <;> decide
      · exact hb b (by rw [hAB]; exact List.mem_append.2 (.inr h))
  -- the run of the old text, parted where the word begins
  rw [htk, srun_append] at hr
  cases h1 : srun text ([], [], none) (toks 0 A) with
  | inr e => rw [h1] at hr; cases hr
  | inl y =>
    rw [h1] at hr
    dsimp only at hr
    have hlt := pair_lt hw2 fun u hu => (hw1 u hu).2.2
    rw [htk] at hlt
    have hBt : ∃ r, toks t.2 B = t :: r := by
      have hBm : t ∈ toks t.2 B := by
        rcases List.mem_append.1 (by rw [← htk]; exact hmem : t ∈ toks 0 A ++ toks t.2 B) with h | h
        · have := (toks_where _ A 0 (Nat.le_refl _)).1 t h
          omega
        · exact h
      cases hB2 : toks t.2 B with
      | nil => rw [hB2] at hBm; cases hBm
      | cons u r =>
        rw [hB2] at hBm
        rcases List.mem_cons.1 hBm with e | e
        · exact ⟨r, by rw [e]⟩
        · have h2 := (List.pairwise_append.1 hlt).2.1
          rw [hB2] at h2
          have h3 := (List.pairwise_cons.1 h2).1 t e
          have h4 := ((toks_where _ B t.2 (Nat.le_refl _)).1 u (by rw [hB2]; exact List.mem_cons_self ..)).1
          omega
    obtain ⟨r, hBr⟩ := hBt
    have hyn : y.2.2 = none := by
      refine srun_none (t := t) (l := r) (y := (w, c, none)) ?_ (fun u hu => ?_) (by rw [← hBr]; exact hr) ⟨t, ht, rfl⟩
      · have h2 := (List.pairwise_append.1 hlt).2.1
        rwa [hBr] at h2
      · rcases srun_words _ _ _ h1 u hu with h | h
        · cases h
        · have := (toks_where _ A 0 (Nat.le_refl _)).1 u h
          omega
    obtain ⟨y', hy', hs1⟩ := srun_sim (text' := X) (d := 0) (toks 0 A) (toks 0 A) ([], [], none) ([], [], none) y rfl ⟨rfl, rfl, rfl⟩ h1
    obtain ⟨yw, yc, yo⟩ := y'
    have hyo : yo = none := by
      have := hs1.2.2
      rw [hyn] at this
      cases yo with
      | none => rfl
      | some i => simp at this
    subst hyo
    have hmid : srun X (yw, yc, none) (toks t.2 (noteS note)) = .inl (yw, yc ++ [((X.take pb).drop (pa + 2), pa, yw.length)], none) := by
      rw [hno, srun, sstep_open rfl]
      show srun X (yw, yc, some pa) (toks (t.2 + 3) note ++ [([36, 41], pb)]) = _
      rw [srun_append, srun_note _ _ _ _ fun u hu hm => hd (mem_toks (n := note.length) note _ (Nat.le_refl _) u hu 36 hm)]
      show srun X (yw, yc, some pa) [([36, 41], pb)] = _
      rw [srun, sstep_close2 rfl]
      rfl
    obtain ⟨z', hz', hs2⟩ := srun_sim (text := text) (text' := X) (d := 1) (toks t.2 B) (toks (t.2 + (noteS note).length) B) y (yw, yc ++ [((X.take pb).drop (pa + 2), pa, yw.length)], none) (w, c, none) (toks_text _ _ _)
      ⟨hs1.1, by have := hs1.2.1; simp at this ⊢; omega, by rw [hyn]⟩ hr
    obtain ⟨zw, zc, zo⟩ := z'
    have hzo : zo = none := by
      have := hs2.2.2
      cases zo with
      | none => rfl
      | some i => simp at this
    subst hzo
    have hfull : srun X ([], [], none) (scanS X).1 = .inl (zw, zc, none) := by
      rw [hXs]
      show srun X ([], [], none) (toks 0 X) = _
      rw [htX, srun_append, hy']
      show srun X (yw, yc, none) (toks t.2 (noteS note) ++ toks (t.2 + (noteS note).length) B) = _
      rw [srun_append, hmid]
      exact hz'
    refine ⟨zw, zc, stripS_ok (by rw [hXs]) hfull, hs2.1.symm, ?_⟩
    have := hs2.2.1
    dsimp only at this
    omega
/-- a text without include commands, read alone -/
theorem runAt_plain {inc : RdS → TokD → TokD → RdS ⊕ ErrD} {name : List UInt8} {ws : List TokD} (hn : ∀ t ∈ ws, t.1 ≠ [36, 91] ∧ t.1 ≠ [36, 93]) (h8 : ws.length ≤ 8000) : ∀ (m i : Nat) (x : RdS) (R : List ComD), ws.length - i = m → i ≤ ws.length →
    x.words = (ws.take i).map (fun t => (t.1, (0 : Int), (t.2 : Int))) → (∀ c ∈ R, i ≤ c.2.2 ∧ c.2.2 ≤ ws.length ∧ ∀ j z, ws[j]? = some z → (c.2.1 < z.2 ↔ c.2.2 ≤ j)) → R.Pairwise (fun a b => a.2.2 ≤ b.2.2) →
    ∃ y, runAt inc name 0 ws x [] i R = .inl (y, [], ws.length) ∧ y.files = x.files ∧ y.words = ws.map (fun t => (t.1, (0 : Int), (t.2 : Int))) ∧ y.coms = x.coms ++ R.map fun c => (c.1, (0 : Int), (c.2.1 : Int), (c.2.2 : Int)) := by
  intro m
  induction m with
  | zero =>
    intro i x R hm hi hx hR _
    obtain rfl : i = ws.length := by omega
    refine ⟨_, runAt_end, rfl, by rw [List.take_length] at hx; exact hx, ?_⟩
    show x.coms ++ R.map _ = _
    congr 1
    refine List.map_congr_left fun c hc => ?_
    have := hR c hc
    rw [hx]
    simp
    omega
  | succ m ih =>
    intro i x R hm hi hx hR hp
    have hlt : i < ws.length := by omega
    have hw : ws[i]? = some ws[i] := List.getElem?_eq_getElem hlt
    have hne := hn ws[i] (List.getElem_mem hlt)
    have hdl := due_left i R
    have hx2 : (addCs x 0 (dueC i R)).words = x.words := rfl
    have hxl : x.words.length = i := by rw [hx]; simp; omega
    have hwrong : wrongW ws (addCs x 0 (dueC i R)) ws[i] i = none := by
      unfold wrongW
      rw [if_neg hne.2, if_neg hne.1, if_neg (by rw [hx2, hxl]; omega)]
    rw [runAt_word hw (fun c hc => (hR c hc).2.2 i _ hw) hwrong hne.1]
    have hsub : ∀ c ∈ leftC i R, c ∈ R := fun c hc => (List.dropWhile_sublist _).subset hc
    obtain ⟨y, h1, h2, h3, h4⟩ := ih (i + 1) (addW (addCs x 0 (dueC i R)) 0 ws[i]) (leftC i R) (by omega) (by omega)
      (by
        show x.words ++ [_] = _
        rw [List.take_add_one, hw, List.map_append, hx]
        rfl)
      (fun c hc => ⟨by
        have hpl : (leftC i R).Pairwise (fun a b => a.2.2 ≤ b.2.2) := hp.sublist (List.dropWhile_sublist _)
        cases hl : leftC i R with
        | nil => rw [hl] at hc; cases hc
        | cons d r =>
          have hd := List.head?_dropWhile_not (fun c : ComD => decide (c.2.2 ≤ i)) R
          have hl' : R.dropWhile (fun c => decide (c.2.2 ≤ i)) = d :: r := hl
          rw [hl'] at hd
          have hdi : i < d.2.2 := by simpa using hd
          rw [hl] at hc hpl
          rcases List.mem_cons.1 hc with rfl | hc
          · omega
          · have := (List.pairwise_cons.1 hpl).1 c hc
            omega, (hR c (hsub c hc)).2⟩)
      (hp.sublist (List.dropWhile_sublist _))
    refine ⟨y, h1, h2, h3, ?_⟩
    rw [h4]
    show (x.coms ++ (dueC i R).map _) ++ (leftC i R).map _ = _
    rw [List.append_assoc]
    congr 1
    rw [← hdl, List.map_append]
    congr 1
    · rw [hdl]
      refine List.map_congr_left fun c hc => ?_
      have h1 : c ∈ R := (List.takeWhile_sublist _).subset hc
      have h2 := (hR c h1).1
      have h3 : c.2.2 ≤ i := by
        have := List.all_takeWhile (p := fun c : ComD => decide (c.2.2 ≤ i)) (l := R)
        rw [List.all_eq_true] at this
        simpa using this c hc
      rw [hxl]
      simp
      omega
    · rw [hdl]
theorem read_plain {fs : List UInt8 → Option (List UInt8)} {main text : List UInt8} (hf : fs main = some text) (hs : (stripS text).2.2.2 = 0) (hn : ∀ t ∈ (stripS text).1, t.1 ≠ [36, 91] ∧ t.1 ≠ [36, 93]) :
    ∃ y, readS fs main = .inl y ∧ y.files = [main] ∧ y.words = (stripS text).1.map (fun t => (t.1, (0 : Int), (t.2 : Int))) ∧ y.coms = (stripS text).2.1.map fun c => (c.1, (0 : Int), (c.2.1 : Int), (c.2.2 : Int)) := by
  have ho := strip_ord text
  obtain ⟨y, h1, h2, h3, h4⟩ := runAt_plain (inc := incS fs main (takeS fs 40)) (name := main) hn (strip_len text).1 _ 0 (openF ⟨[], [], [], 0⟩ main) (stripS text).2.1 rfl (Nat.zero_le _) rfl
    (fun c hc => ⟨Nat.zero_le _, (ho.1 c hc).1, (ho.1 c hc).2⟩) ho.2
  refine ⟨y, ?_, h2, h3, by rw [h4]; rfl⟩
  unfold readS
  rw [hf]
  show takeS fs 41 ⟨[], [], [], 0⟩ main = _
  unfold takeS
  rw [hf]
  simp only [Option.getD_some]
  rw [if_neg (fun h => h hs)]
  unfold runAt at h1
  rw [List.drop_zero] at h1
  rw [show (⟨[], [], [], 0⟩ : RdS).files.length = 0 from rfl, h1]
end Go.Proofs.Ytignhjfobcnloaa
end
section
namespace Go.Proofs.Ytignhjfobcnloaa
section
variable {inc : RdS → TokD → TokD → RdS ⊕ ErrD} {name : List UInt8} {file : Nat} {ws : List TokD}
/-- a law for what a file's pieces do, from what each of them does -/
theorem runR_ind {I : RdS → Prop} (hinc : ∀ x a b y, inc x a b = .inl y → I x → I y) (hC : ∀ x c, I x → I (addC x file c)) (hW : ∀ x w, w ∈ ws → I x → I (addW x file w)) :
    ∀ (l : List PieceD) (s t : RunD), (∀ w, .inl w ∈ l → w ∈ ws) → runR (stepR inc name file ws) s l = .inl t → I s.1 → I t.1 := by
  intro l
  induction l with
  | nil => intro s t _ h hi; simp [runR] at h; subst h; exact hi
  | cons p l ih =>
    intro s t hw h hi
    unfold runR at h
    split at h
    · cases h
    · rename_i u hu
      refine ih u t (fun w hw' => hw w (List.mem_cons_of_mem _ hw')) h ?_
      obtain ⟨x, cmd, next⟩ := s
      cases p with
      | inr c => simp [stepR] at hu; subst hu; exact hC _ _ hi
      | inl w =>
        match cmd, hu with
        | [], hu =>
          simp only [stepR] at hu
          split at hu
          · cases hu
          · split at hu
            · cases hu; exact hi
            · cases hu; exact hW _ _ (hw w (List.mem_cons_self ..)) hi
        | [a], hu => simp [stepR] at hu; subst hu; exact hi
        | a :: b :: r, hu =>
          simp only [stepR] at hu
          split at hu
          · rename_i y hy; cases hu; exact hinc _ _ _ _ hy hi
          · cases hu
end
theorem mem_merge : ∀ (ws : List TokD) (cs : List ComD) (w : TokD), .inl w ∈ mergeS ws cs → w ∈ ws
  | [], cs, w, h => by simp [mergeS] at h
  | a :: ws, cs, w, h => by
    rw [mergeS] at h
    rcases List.mem_append.1 h with h | h
    · simp at h
    · rcases List.mem_cons.1 h with h | h
      · cases h; exact List.mem_cons_self ..
      · exact List.mem_cons_of_mem _ (mem_merge ws _ w h)
/-- a law for what a file does, from what its pieces do -/
theorem takeS_ind {fs : List UInt8 → Option (List UInt8)} {I : RdS → Prop} (hO : ∀ x name, I x → name ∉ x.files → I (openF x name)) (hC : ∀ x file c, I x → I (addC x file c))
    (hW : ∀ x name text file w, I x → (stripS text).2.2.2 = 0 → w ∈ (stripS text).1 → (fs name).getD [] = text → x.files[file]? = some name → I (addW x file w)) :
    ∀ (f : Nat) (x y : RdS) (name : List UInt8), name ∉ x.files → takeS fs f x name = .inl y → I x → I y := by
  intro f
  induction f with
  | zero => intro x y name _ h; simp [takeS] at h
  | succ f ih =>
    intro x y name hn h hi
    unfold takeS at h
    split at h
    · cases h
    · rename_i he
      split at h
      · rename_i s hs
        cases h
        obtain ⟨_, _, hfin, _⟩ := runR_more (incS_more fs f name) _ hs
        have key := runR_ind (I := fun z => I z ∧ x.files ++ [name] <+: z.files) (inc := incS fs name (takeS fs f)) (name := name) (file := x.files.length) (ws := (stripS ((fs name).getD [])).1)
          (fun z a b y hz hI => by
            have hm := incS_more fs f name z a b y hz
            refine ⟨?_, hI.2.trans hm.fs⟩
            unfold incS at hz
            split at hz
            · cases hz; exact hI.1
            · rename_i hnm
              split at hz
              · cases hz
              · split at hz
                · cases hz
                · split at hz
                  · cases hz
                  · rename_i q hq
                    split at hz
                    · cases hz; exact ih _ _ _ hnm hq hI.1
                    · cases hz)
          (fun z c hI => ⟨hC _ _ _ hI.1, hI.2⟩)
          (fun z w hw hI => ⟨hW z name _ _ w hI.1 (by simpa using he) hw rfl (by
            obtain ⟨r, hr⟩ := hI.2
            rw [← hr, List.append_assoc, List.getElem?_append_right (Nat.le_refl _)]
            simp), hI.2⟩)
          _ _ _ (fun w hw => mem_merge _ _ w hw) hs ⟨hO x name hi hn, List.prefix_rfl⟩
        exact key.1
      · cases h
theorem takeS_nodup {fs : List UInt8 → Option (List UInt8)} {f : Nat} {x y : RdS} {name : List UInt8} (hn : name ∉ x.files) (h : takeS fs f x name = .inl y) (hx : x.files.Nodup) : y.files.Nodup :=
  takeS_ind (fs := fs) (I := fun z => z.files.Nodup) (fun z m hz hm => by
    show (z.files ++ [m]).Nodup
    rw [List.nodup_append]
    exact ⟨hz, by simp, fun a ha b hb => by simp at hb; subst hb; exact fun e => hm (e ▸ ha)⟩) (fun _ _ _ h => h) (fun _ _ _ _ _ h _ _ _ _ => h) f x y name hn h hx
/-- each word stands in its file -/
def StandS (fs : List UInt8 → Option (List UInt8)) (x : RdS) : Prop := ∀ w ∈ x.words, ∃ k a : Nat, w.2.1 = k ∧ w.2.2 = a ∧ ∃ m, x.files[k]? = some m ∧ a ≤ ((fs m).getD []).length ∧ w.1 <+: ((fs m).getD []).drop a
theorem strip_stand {text : List UInt8} (h : (stripS text).2.2.2 = 0) {w : TokD} (hw : w ∈ (stripS text).1) : w.2 ≤ text.length ∧ w.1 <+: text.drop w.2 := by
  obtain ⟨hz, ws, c, hr, he⟩ := strip_good h
  rw [he] at hw
  have hm : w ∈ toks 0 text := by
    rcases srun_words _ _ _ hr w hw with h | h
    · cases h
    · exact h
  have h1 := (toks_where _ text 0 (Nat.le_refl _)).1 w hm
  have h2 := (toks_read _ text 0 (Nat.le_refl _) w hm).2.1
  rw [Nat.sub_zero] at h2
  exact ⟨by omega, h2⟩
theorem takeS_stand {fs : List UInt8 → Option (List UInt8)} {f : Nat} {x y : RdS} {name : List UInt8} (hn : name ∉ x.files) (h : takeS fs f x name = .inl y) (hx : StandS fs x) : StandS fs y :=
  takeS_ind (fs := fs) (I := StandS fs) (fun z m hz _ w hw => by
      obtain ⟨k, a, h1, h2, n, h3, h4, h5⟩ := hz w hw
      exact ⟨k, a, h1, h2, n, by
        show (z.files ++ [m])[k]? = some n
        rw [List.getElem?_append_left (List.getElem?_eq_some_iff.1 h3).1]; exact h3, h4, h5⟩)
    (fun _ _ _ h => h)
    (fun z m text file w hz h0 hw ht hf v hv => by
      rcases List.mem_append.1 (show v ∈ z.words ++ [(w.1, (file : Int), (w.2 : Int))] from hv) with hv | hv
      · exact hz v hv
      · simp at hv
        subst hv
        obtain ⟨s1, s2⟩ := strip_stand h0 hw
        exact ⟨file, w.2, rfl, rfl, m, hf, by rw [ht]; exact s1, by rw [ht]; exact s2⟩) f x y name hn h hx
theorem readS_once {fs : List UInt8 → Option (List UInt8)} {main : List UInt8} {u : RdS} (h : readS fs main = .inl u) : u.files.Nodup ∧ StandS fs u ∧ OkR u ∧ [main] <+: u.files := by
  unfold readS at h
  split at h
  · cases h
  · obtain ⟨h1, _, h3⟩ := takeS_more fs 41 _ _ _ h
    exact ⟨takeS_nodup (by simp) h List.Pairwise.nil, takeS_stand (by simp) h (by intro w hw; cases hw), h1 (by decide) ⟨by simp, by simp, by simp⟩, h3⟩
/-- the files, the text of one of them another one -/
def setF (fs : List UInt8 → Option (List UInt8)) (main text : List UInt8) : List UInt8 → Option (List UInt8) := fun k => if k = main then some text else fs k
theorem stepR_same {inc inc' : RdS → TokD → TokD → RdS ⊕ ErrD} {name : List UInt8} {file : Nat} {ws ws' : List TokD} {s t : RunD} {p : PieceD} (hinc : ∀ a b y, inc s.1 a b = .inl y → inc' s.1 a b = .inl y) (hw : ws <+: ws')
    (h : stepR inc name file ws s p = .inl t) : stepR inc' name file ws' s p = .inl t := by
  obtain ⟨x, cmd, next⟩ := s
  cases p with
  | inr c => exact h
  | inl w =>
    match cmd, h with
    | [], h =>
      have hle : ∀ e, wrongW ws x w next = e → e = none → wrongW ws' x w next = none := by
        intro e he h0
        rw [h0] at he
        by_cases hn : w.1 = [36, 91]
        · obtain ⟨hb, a, b, ha, hb', hc, hd⟩ := wrongW_incl he hn
          obtain ⟨r, rfl⟩ := hw
          unfold wrongW
          rw [if_neg (by rw [hn]; decide), if_pos hn, if_neg (by simp [hb]), List.getElem?_append_left (List.getElem?_eq_some_iff.1 ha).1, ha, List.getElem?_append_left (List.getElem?_eq_some_iff.1 hb').1, hb']
          dsimp only
          rw [if_neg (by rw [not_or]; exact ⟨hc, by simp [hd]⟩)]
        · unfold wrongW at he ⊢
          rw [if_neg hn] at he ⊢
          exact he
      simp only [stepR] at h ⊢
      cases hq : wrongW ws x w next with
      | some e => rw [hq] at h; cases h
      | none => rw [hq] at h; rw [hle _ hq rfl]; exact h
    | [a], h => exact h
    | a :: b :: r, h =>
      simp only [stepR] at h ⊢
      cases hq : inc x a b with
      | inr e => rw [hq] at h; cases h
      | inl y => rw [hq] at h; rw [hinc a b y hq]; exact h
theorem runR_same {inc inc' : RdS → TokD → TokD → RdS ⊕ ErrD} {name main : List UInt8} {file : Nat} {ws ws' : List TokD} (hm : ∀ x a b y, inc x a b = .inl y → MoreR x y) (hinc : ∀ x a b y, main ∈ x.files → inc x a b = .inl y → inc' x a b = .inl y) (hw : ws <+: ws') :
    ∀ (l : List PieceD) (s t : RunD), main ∈ s.1.files → runR (stepR inc name file ws) s l = .inl t → runR (stepR inc' name file ws') s l = .inl t := by
  intro l
  induction l with
  | nil => intro s t _ h; exact h
  | cons p l ih =>
    intro s t hs h
    unfold runR at h ⊢
    split at h
    · cases h
    · rename_i u hu
      rw [stepR_same (fun a b y => hinc s.1 a b y hs) hw hu]
      exact ih u t ((stepR_more hm hu).2.2.1.subset hs) h
theorem incS_same {fs : List UInt8 → Option (List UInt8)} {main text : List UInt8} {f : Nat} {name : List UInt8} (htk : ∀ (x y : RdS) (n : List UInt8), main ∈ x.files → n ≠ main → takeS fs f x n = .inl y → takeS (setF fs main text) f x n = .inl y) :
    ∀ x a b y, main ∈ x.files → incS fs name (takeS fs f) x a b = .inl y → incS (setF fs main text) name (takeS (setF fs main text) f) x a b = .inl y := by
  intro x a b y hm h
  unfold incS at h ⊢
  split at h
  · rename_i h1; rw [if_pos h1]; exact h
  · rename_i h1
    rw [if_neg h1]
    have hne : b.1 ≠ main := fun e => h1 (e ▸ hm)
    have e : setF fs main text b.1 = fs b.1 := by unfold setF; rw [if_neg hne]
    rw [e]
    cases hf : fs b.1 with
    | none => rw [hf] at h; cases h
    | some tx =>
      rw [hf] at h
      dsimp only at h ⊢
      split at h
      · cases h
      · rename_i h2
        rw [if_neg h2]
        cases hq : takeS fs f x b.1 with
        | inr e => rw [hq] at h; cases h
        | inl z => rw [hq] at h; rw [htk _ _ _ hm hne hq]; exact h
theorem takeS_same {fs : List UInt8 → Option (List UInt8)} {main text : List UInt8} : ∀ (f : Nat) (x y : RdS) (n : List UInt8), main ∈ x.files → n ≠ main → takeS fs f x n = .inl y → takeS (setF fs main text) f x n = .inl y := by
  intro f
  induction f with
  | zero => intro x y n _ _ h; simp [takeS] at h
  | succ f ih =>
    intro x y n hm hne h
    have e : setF fs main text n = fs n := by unfold setF; rw [if_neg hne]
    unfold takeS at h ⊢
    rw [e]
    split at h
    · cases h
    · rename_i h0
      rw [if_neg h0]
      cases hq : runR (stepR (incS fs n (takeS fs f)) n x.files.length (stripS ((fs n).getD [])).1) (openF x n, [], 0) (mergeS (stripS ((fs n).getD [])).1 (stripS ((fs n).getD [])).2.1) with
      | inr e => rw [hq] at h; cases h
      | inl s =>
        rw [hq] at h
        rw [runR_same (main := main) (incS_more fs f n) (incS_same (text := text) ih) List.prefix_rfl _ _ _ (by show main ∈ x.files ++ [n]; exact List.mem_append.2 (.inl hm)) hq]
        exact h
/-- behind all pieces no command is open -/
theorem runR_closed {inc : RdS → TokD → TokD → RdS ⊕ ErrD} {name : List UInt8} {file : Nat} {ws : List TokD} : ∀ (l : List PieceD) (s t : RunD), (s.2.1 = [] ∨ (∃ a, s.2.1 = [a] ∧ s.2.2 + 2 ≤ ws.length) ∨ (∃ a b, s.2.1 = [a, b] ∧ s.2.2 + 1 ≤ ws.length)) → runR (stepR inc name file ws) s l = .inl t →
    (t.2.1 = [] ∨ (∃ a, t.2.1 = [a] ∧ t.2.2 + 2 ≤ ws.length) ∨ (∃ a b, t.2.1 = [a, b] ∧ t.2.2 + 1 ≤ ws.length)) := by
  intro l
  induction l with
  | nil => intro s t hs h; simp [runR] at h; subst h; exact hs
  | cons p l ih =>
    intro s t hs h
    unfold runR at h
    split at h
    · cases h
    · rename_i u hu
      refine ih u t ?_ h
      obtain ⟨x, cmd, next⟩ := s
      cases p with
      | inr c => simp [stepR] at hu; subst hu; exact hs
      | inl w =>
        dsimp only at hs
        rcases hs with rfl | ⟨a, rfl, h1⟩ | ⟨a, b, rfl, h1⟩
        · simp only [stepR] at hu
          split at hu
          · cases hu
          · rename_i hw
            split at hu
            · rename_i hn
              cases hu
              obtain ⟨_, a, b, _, hb, _⟩ := wrongW_incl hw hn
              have := (List.getElem?_eq_some_iff.1 hb).1
              exact .inr (.inl ⟨w, rfl, by dsimp only; omega⟩)
            · cases hu; exact .inl rfl
        · simp [stepR] at hu; subst hu; exact .inr (.inr ⟨a, w, rfl, by dsimp only; omega⟩)
        · simp only [stepR] at hu
          split at hu
          · cases hu; exact .inl rfl
          · cases hu
theorem while_all {α : Type} {p : α → Bool} : ∀ (l : List α), (∀ x ∈ l, p x = true) → l.takeWhile p = l ∧ l.dropWhile p = []
  | [], _ => ⟨rfl, rfl⟩
  | a :: l, h => by
    obtain ⟨i1, i2⟩ := while_all l fun x hx => h x (List.mem_cons_of_mem _ hx)
    rw [List.takeWhile_cons, List.dropWhile_cons, if_pos (h a (List.mem_cons_self ..)), if_pos (h a (List.mem_cons_self ..)), i1, i2]
    exact ⟨rfl, rfl⟩
theorem merge_more : ∀ (ws : List TokD) (cs : List ComD) (n : TokD) (r : List TokD), (∀ c ∈ cs, c.2.1 < n.2) → mergeS (ws ++ n :: r) cs = mergeS ws cs ++ (n :: r).map .inl
  | [], cs, n, r, h => by
    obtain ⟨h1, h2⟩ := while_all (p := fun c => decide (c.2.1 < n.2)) cs fun c hc => by simpa using h c hc
    have h3 : ∀ l : List TokD, mergeS l [] = l.map .inl := by
      intro l
      induction l with
      | nil => rfl
      | cons a l ih => rw [mergeS]; simp [ih]
    rw [List.nil_append]
    show (cs.takeWhile fun c => decide (c.2.1 < n.2)).map .inr ++ .inl n :: mergeS r (cs.dropWhile fun c => decide (c.2.1 < n.2)) = _
    rw [h1, h2, h3, mergeS]
    rfl
  | a :: ws, cs, n, r, h => by
    rw [List.cons_append, mergeS, mergeS, merge_more ws _ n r fun c hc => h c ((List.dropWhile_sublist _).subset hc)]
    simp
def onceA (f1 : List UInt8) : List UInt8 := [32, 36, 91, 32] ++ f1 ++ [32, 36, 93]
theorem toks_one : ∀ (s : List UInt8) (k : Nat), s ≠ [] → (∀ b ∈ s, sp b = false) → toks k s = [(s, k)] := by
  intro s k hne h
  cases s with
  | nil => exact absurd rfl hne
  | cons c t =>
    have h1 := fun b hb => h b (List.mem_cons_of_mem c hb)
    obtain ⟨e1, e2⟩ := while_all (p := fun c => !sp c) t fun b hb => by simp [h1 b hb]
    rw [toks_cons (h c (List.mem_cons_self ..)), e1, e2, toks_nil]
theorem toks_once (f1 : List UInt8) (k : Nat) (h0 : f1 ≠ []) (h1 : ∀ b ∈ f1, sp b = false) : ∃ a b c, k ≤ a ∧ toks k (onceA f1) = [([36, 91], a), (f1, b), ([36, 93], c)] := by
  have s32 : sp 32 = true := by decide
  have n36 : sp 36 = false := by decide
  have n91 : sp 91 = false := by decide
  have n93 : sp 93 = false := by decide
  unfold onceA
  rw [List.append_assoc, toks_append _ [32, 36, 91, 32] _ k (Nat.le_refl _) (.inl fun x hx => by simp at hx; rw [← hx]; exact s32)]
  rw [toks_append _ f1 _ _ (Nat.le_refl _) (.inr fun x hx => by simp at hx; rw [← hx]; exact s32), toks_one f1 _ h0 h1]
  have e1 : toks k [32, 36, 91, 32] = [([36, 91], k + 1)] := by simp [toks, s32, n36, n91]
  have e2 : ∀ j, toks j [32, 36, 93] = [([36, 93], j + 1)] := fun j => by simp [toks, s32, n36, n93]
  rw [e1, e2]
  exact ⟨_, _, _, by omega, rfl⟩
theorem srun_coms {text : List UInt8} : ∀ (l : List TokD) (x y : StD) (m : Nat), (∀ t ∈ l, t.2 < m) → (∀ c ∈ x.2.1, c.2.1 < m) → (∀ o, x.2.2 = some o → o < m) → srun text x l = .inl y → ∀ c ∈ y.2.1, c.2.1 < m := by
  intro l
  induction l with
  | nil => intro x y m _ hc _ h; simp [srun] at h; subst h; exact hc
  | cons t l ih =>
    intro x y m hl hc ho h
    unfold srun at h
    split at h
    · cases h
    · rename_i z hz
      have ht := hl t (List.mem_cons_self ..)
      refine ih z y m (fun u hu => hl u (List.mem_cons_of_mem _ hu)) ?_ ?_ h
      all_goals
        obtain ⟨a, c, o⟩ := x
        dsimp only at hc ho
        unfold sstep at hz
        split at hz
        · cases hz
        · split at hz
          · cases o <;> simp at hz; subst hz; first | exact hc | (intro o ho'; cases ho'; exact ht)
          · split at hz
            · cases o with
              | none => simp at hz
              | some i =>
                simp at hz; subst hz
                first
                  | (intro o ho'; cases ho'; done)
                  | (intro d hd
                     rcases List.mem_append.1 hd with hd | hd
                     · exact hc d hd
                     · simp at hd; subst hd; exact ho i rfl)
            · cases o <;> (simp at hz; subst hz; first | exact hc | exact ho)
/-- the same include command once more at the end of the main file -/
theorem once_law {fs : List UInt8 → Option (List UInt8)} {main text f1 : List UInt8} {u : RdS} (h : readS fs main = .inl u) (hf : fs main = some text) (hl : text.length ≤ 4000) (hs : onlyS f1 [2, 3]) (h1 : f1 ∈ u.files) :
    readS (setF fs main (text ++ onceA f1)) main = .inl u ∨ ∃ p, readS (setF fs main (text ++ onceA f1)) main = .inr (main, p, 43) := by
  unfold readS at h
  rw [hf] at h
  dsimp only at h
  have hg : setF fs main (text ++ onceA f1) main = some (text ++ onceA f1) := by unfold setF; rw [if_pos rfl]
  unfold takeS at h
  rw [hf] at h
  simp only [Option.getD_some] at h
  split at h
  · cases h
  · rename_i he
    have he0 : (stripS text).2.2.2 = 0 := by simpa using he
    obtain ⟨hz, ws, cs, hr, hst⟩ := strip_good he0
    obtain ⟨_, hb, _⟩ := scan_good hz
    rw [hst] at h
    dsimp only at h
    split at h
    · rename_i s hs'
      cases h
      obtain ⟨hs1, hs2, hs3⟩ := hs
      have hsp : ∀ b ∈ f1, sp b = false := fun b hb => by
        have := hs3 b hb
        simp at this
        unfold sp
        rcases this with e | e <;> rw [e] <;> rfl
      have h36 : (36 : UInt8) ∉ f1 := fun hm => by have := hs3 36 hm; revert this; decide
      obtain ⟨X, hX⟩ : ∃ X, X = text ++ onceA f1 := ⟨_, rfl⟩
      obtain ⟨pa, pb, pc, hpa, hto⟩ := toks_once f1 text.length hs1 hsp
      have htX : toks 0 X = toks 0 text ++ [([36, 91], pa), (f1, pb), ([36, 93], pc)] := by
        rw [hX, toks_append _ text _ 0 (Nat.le_refl _) (.inr fun x hx => by unfold onceA at hx; simp at hx; rw [← hx]; decide), Nat.zero_add, hto]
      have hXs : scanS X = (toks 0 X, 0, 0) := by
        refine scan_make (by rw [hX]; simp [onceA]; omega) fun b hbX => ?_
        rw [hX] at hbX
        rcases List.mem_append.1 hbX with h | h
        · exact hb b h
        · unfold onceA at h
          rcases List.mem_append.1 h with h | h
          · rcases List.mem_append.1 h with h | h
            · simp at h; rcases h with rfl | rfl | rfl | rfl <;> decide
            · have := hs3 b h; simp at this; omega
          · simp at h; rcases h with rfl | rfl | rfl <;> decide
      obtain ⟨z', hz', hsim⟩ := srun_sim (text := text) (text' := X) (d := 0) (toks 0 text) (toks 0 text) ([], [], none) ([], [], none) (ws, cs, none) rfl ⟨rfl, rfl, rfl⟩ hr
      -- the texts of the comments are the same, too: they lie ahead of the end
      have hsame : ∀ (l : List TokD) (x : StD), (∀ t ∈ l, t.2 ≤ text.length) → srun X x l = srun text x l := by
        intro l
        induction l with
        | nil => intro x _; rfl
        | cons t l ih =>
          intro x hl'
          have ht := hl' t (List.mem_cons_self ..)
          have e : sstep X x t = sstep text x t := by
            unfold sstep
            rw [hX, List.take_append_of_le_length ht]
          rw [srun, srun, e]
          cases sstep text x t with
          | inr e => rfl
          | inl y => exact ih y fun u hu => hl' u (List.mem_cons_of_mem _ hu)
      have hwh := toks_where _ text 0 (Nat.le_refl _)
      have hrX : srun X ([], [], none) (toks 0 text) = .inl (ws, cs, none) := by
        rw [hsame _ _ fun t ht => by have := hwh.1 t ht; omega]; exact hr
      have hf1C : ¬ (2 < f1.length ∧ hasC f1 = true) := by
        rintro ⟨_, h2⟩
        unfold hasC at h2
        rw [Bool.or_eq_true, hasB_iff, hasB_iff] at h2
        rcases h2 with ⟨j, h3, _⟩ | ⟨j, h3, _⟩ <;> exact h36 (List.mem_of_getElem? h3)
      have hfull : srun X ([], [], none) (scanS X).1 = .inl (ws ++ [([36, 91], pa), (f1, pb), ([36, 93], pc)], cs, none) := by
        rw [hXs]
        show srun X ([], [], none) (toks 0 X) = _
        rw [htX, srun_append, hrX]
        show srun X (ws, cs, none) [([36, 91], pa), (f1, pb), ([36, 93], pc)] = _
        rw [srun, sstep_word (by simp) (by simp) (by simp)]
        show srun X (ws ++ [([36, 91], pa)], cs, none) [(f1, pb), ([36, 93], pc)] = _
        rw [srun, sstep_word hf1C (fun e => h36 (by have e' : f1 = [36, 40] := e; rw [e']; simp)) (fun e => h36 (by have e' : f1 = [36, 41] := e; rw [e']; simp))]
        show srun X (ws ++ [([36, 91], pa)] ++ [(f1, pb)], cs, none) [([36, 93], pc)] = _
        rw [srun, sstep_word (by simp) (by simp) (by simp)]
        simp [srun]
      have hstX := stripS_ok (by rw [hXs]) hfull
      have hcs : ∀ c ∈ cs, c.2.1 < pa := fun c hc => by
        have := srun_coms (toks 0 text) ([], [], none) (ws, cs, none) text.length (fun t ht => by have := hwh.1 t ht; omega) (by simp) (fun o ho => by cases ho) hr c hc
        omega
      have hread : readS (setF fs main X) main = takeS (setF fs main X) 41 ⟨[], [], [], 0⟩ main := by
        unfold readS
        rw [show setF fs main X main = some X by unfold setF; rw [if_pos rfl]]
      have hmain : (setF fs main X main).getD [] = X := by unfold setF; rw [if_pos rfl]; rfl
      rw [← hX, hread]
      unfold takeS
      rw [hmain, hstX]
      dsimp only
      rw [if_neg (by simp)]
      have hrun := runR_same (name := main) (main := main) (file := 0) (incS_more fs 40 main) (incS_same (text := X) (takeS_same (fs := fs) (main := main) (text := X) 40)) (List.prefix_append ws [([36, 91], pa), (f1, pb), ([36, 93], pc)]) (mergeS ws cs) (openF ⟨[], [], [], 0⟩ main, [], 0) s (by show main ∈ [] ++ [main]; simp) hs'
      have hcl := runR_closed (mergeS ws cs) _ s (.inl rfl) hs'
      have hnx := (runR_more (incS_more fs 40 main) _ hs').2.2.2
      rw [nwrd_merge] at hnx
      obtain ⟨x, cmd, next⟩ := s
      have hnx' : next = ws.length := by simpa using hnx
      subst hnx'
      have hcmd : cmd = [] := by
        rcases hcl with h | ⟨a, _, h⟩ | ⟨a, b, _, h⟩
        · exact h
        · dsimp only at h; omega
        · dsimp only at h; omega
      subst hcmd
      rw [merge_more ws cs _ _ hcs]
      rw [show (⟨[], [], [], 0⟩ : RdS).files.length = 0 from rfl]
      simp only [List.map_cons, List.map_nil]
      rw [runR_append, hrun]
      dsimp only
      have g1 : (ws ++ [([36, 91], pa), (f1, pb), ([36, 93], pc)])[ws.length + 1]? = some (f1, pb) := by rw [List.getElem?_append_right (by omega), show ws.length + 1 - ws.length = 1 by omega]; rfl
      have g2 : (ws ++ [([36, 91], pa), (f1, pb), ([36, 93], pc)])[ws.length + 2]? = some ([36, 93], pc) := by rw [List.getElem?_append_right (by omega), show ws.length + 2 - ws.length = 2 by omega]; rfl
      cases hbt : betweenS x with
      | false =>
        right
        refine ⟨pa, ?_⟩
        have hw : wrongW (ws ++ [([36, 91], pa), (f1, pb), ([36, 93], pc)]) x ([36, 91], pa) ws.length = some ((pa : Int), 43) := by
          unfold wrongW
          rw [if_neg (by simp), if_pos rfl, if_pos hbt]
        simp only [runR, stepR, hw]
      | true =>
        left
        have hw : wrongW (ws ++ [([36, 91], pa), (f1, pb), ([36, 93], pc)]) x ([36, 91], pa) ws.length = none := by
          unfold wrongW
          rw [if_neg (by simp), if_pos rfl, if_neg (by simp [hbt]), g1, g2]
          dsimp only
          rw [if_neg (by rw [not_or]; exact ⟨h36, by simp⟩)]
        have hinc : incS (setF fs main X) main (takeS (setF fs main X) 40) x ([36, 91], pa) (f1, pb) = .inl x := by
          unfold incS
          rw [if_pos h1]
        simp only [runR, stepR, hw, if_true, hinc]
    · cases h
end Go.Proofs.Ytignhjfobcnloaa
end
