/- The tokens of a text, as plain functions. -/
import Derived.Test.YtignhjfobcnloaaTokPlain
namespace Go.Proofs.Ytignhjfobcnloaa
/-- a token: its bytes, and where it begins -/
abbrev TokD := List UInt8 × Nat
/-- white space -/
def sp (b : UInt8) : Bool := cls b.toNat == 1
/-- the tokens of a text that begins at byte k -/
def toks (k : Nat) (s : List UInt8) : List TokD :=
  match s with
  | [] => []
  | b :: t => if sp b then toks (k + 1) t else (b :: t.takeWhile (fun c => !sp c), k) :: toks (k + 1 + (t.takeWhile (fun c => !sp c)).length) (t.dropWhile (fun c => !sp c))
termination_by s.length
decreasing_by
  · simp
  · have := (List.dropWhile_sublist (fun c => !sp c) (l := t)).length_le
    simp; omega
theorem toks_nil (k : Nat) : toks k [] = [] := by rw [toks]
theorem toks_sp {k : Nat} {b : UInt8} {t : List UInt8} (h : sp b = true) : toks k (b :: t) = toks (k + 1) t := by rw [toks, if_pos h]
theorem toks_cons {k : Nat} {b : UInt8} {t : List UInt8} (h : sp b = false) : toks k (b :: t) = (b :: t.takeWhile (fun c => !sp c), k) :: toks (k + 1 + (t.takeWhile (fun c => !sp c)).length) (t.dropWhile (fun c => !sp c)) := by
  rw [toks, if_neg (by simp [h])]
theorem takeWhile_at {α : Type} (p : α → Bool) : ∀ (l : List α) (n : Nat), n ≤ l.length → (∀ j b, j < n → l[j]? = some b → p b = true) → (∀ b, l[n]? = some b → p b = false) → l.takeWhile p = l.take n ∧ l.dropWhile p = l.drop n := by
  intro l
  induction l with
  | nil => intro n h _ _; simp at h; subst h; simp
  | cons a l ih =>
    intro n h h1 h2
    cases n with
    | zero => have := h2 a rfl; simp [this]
    | succ n =>
      have ha := h1 0 a (by omega) rfl
      obtain ⟨i1, i2⟩ := ih n (by simpa using h) (fun j b hj hb => h1 (j + 1) b (by omega) (by simpa using hb)) (fun b hb => h2 b (by simpa using hb))
      simp [ha, i1, i2]
/-- one token, found by where it ends -/
theorem toks_at {s : List UInt8} {i e : Nat} (h1 : i < e) (h2 : e ≤ s.length) (h3 : ∀ j b, i ≤ j → j < e → s[j]? = some b → sp b = false) (h4 : ∀ b, s[e]? = some b → sp b = true) :
    toks i (s.drop i) = ((s.take e).drop i, i) :: toks e (s.drop e) := by
  have hi : i < s.length := by omega
  have hb := h3 i s[i] (Nat.le_refl _) h1 (List.getElem?_eq_getElem hi)
  obtain ⟨t1, t2⟩ := takeWhile_at (fun c => !sp c) (s.drop (i + 1)) (e - (i + 1)) (by simp; omega)
    (fun j b hj hb => by rw [List.getElem?_drop] at hb; simp [h3 (i + 1 + j) b (by omega) (by omega) hb])
    (fun b hb => by rw [List.getElem?_drop, show i + 1 + (e - (i + 1)) = e by omega] at hb; simp [h4 b hb])
  rw [List.drop_eq_getElem_cons hi, toks_cons hb, t1, t2, List.drop_drop, show i + 1 + (e - (i + 1)) = e by omega]
  congr 1
  · congr 1
    rw [List.drop_take, show e - i = (e - (i + 1)) + 1 by omega, List.drop_eq_getElem_cons hi, List.take_succ_cons]
  · congr 1
    simp; omega
theorem toks_skip {s : List UInt8} {i : Nat} {b : UInt8} (hb : s[i]? = some b) (h : sp b = true) : toks i (s.drop i) = toks (i + 1) (s.drop (i + 1)) := by
  obtain ⟨hi, rfl⟩ := List.getElem?_eq_some_iff.1 hb
  rw [List.drop_eq_getElem_cons hi, toks_sp h]
theorem toks_end {s : List UInt8} : toks s.length (s.drop s.length) = [] := by rw [List.drop_length, toks_nil]
/-- where the tokens lie -/
theorem toks_where : ∀ (n : Nat) (s : List UInt8) (k : Nat), s.length ≤ n → (∀ t ∈ toks k s, k ≤ t.2 ∧ t.2 + t.1.length ≤ k + s.length ∧ 0 < t.1.length) ∧ (toks k s).Pairwise (fun a b => a.2 + a.1.length ≤ b.2) := by
  intro n
  induction n with
  | zero => intro s k h; obtain rfl : s = [] := List.length_eq_zero_iff.1 (by omega); rw [toks_nil]; simp
  | succ n ih =>
    intro s k h
    cases s with
    | nil => rw [toks_nil]; simp
    | cons b t =>
      simp only [List.length_cons] at h ⊢
      by_cases hb : sp b = true
      · rw [toks_sp hb]
        obtain ⟨i1, i2⟩ := ih t (k + 1) (by omega)
        exact ⟨fun x hx => by have := i1 x hx; omega, i2⟩
      · have hb' : sp b = false := by simpa using hb
        rw [toks_cons hb']
        have hl : (t.takeWhile fun c => !sp c).length + (t.dropWhile fun c => !sp c).length = t.length := by
          rw [← List.length_append, List.takeWhile_append_dropWhile]
        obtain ⟨i1, i2⟩ := ih (t.dropWhile fun c => !sp c) (k + 1 + (t.takeWhile fun c => !sp c).length) (by omega)
        refine ⟨fun x hx => ?_, List.pairwise_cons.2 ⟨fun x hx => ?_, i2⟩⟩
        · rcases List.mem_cons.1 hx with rfl | hx
          · simp; omega
          · have := i1 x hx; omega
        · have := i1 x hx
          simp; omega
theorem toks_len : ∀ (n : Nat) (s : List UInt8) (k : Nat), s.length ≤ n → (toks k s).length ≤ s.length := by
  intro n
  induction n with
  | zero => intro s k h; obtain rfl : s = [] := List.length_eq_zero_iff.1 (by omega); rw [toks_nil]; simp
  | succ n ih =>
    intro s k h
    cases s with
    | nil => rw [toks_nil]; simp
    | cons b t =>
      simp only [List.length_cons] at h ⊢
      by_cases hb : sp b = true
      · rw [toks_sp hb]
        have := ih t (k + 1) (by omega); omega
      · rw [toks_cons (by simpa using hb)]
        have h2 := (List.dropWhile_sublist (fun c => !sp c) (l := t)).length_le
        have := ih (t.dropWhile fun c => !sp c) (k + 1 + (t.takeWhile fun c => !sp c).length) (by omega)
        simp; omega
/-- the tokens, the place and the code that Scan returns -/
def scanS (s : List UInt8) : List TokD × Nat × Int :=
  if 40000 < s.length then ([], 0, 4)
  else match s.findIdx? (fun b => cls b.toNat == 0) with
    | some i => ([], i, 30)
    | none => match (toks 0 s)[8000]? with
      | some t => ([], t.2, 8)
      | none => (toks 0 s, 0, 0)
theorem scanS_big {s : List UInt8} (h : 40000 < s.length) : scanS s = ([], 0, 4) := by unfold scanS; rw [if_pos h]
theorem findIdx_hit {α : Type} (p : α → Bool) : ∀ (l : List α) (k : Nat) (x : α), l[k]? = some x → p x = true → (∀ j y, j < k → l[j]? = some y → p y = false) → l.findIdx? p = some k := by
  intro l
  induction l with
  | nil => intro k x h; simp at h
  | cons a l ih =>
    intro k x h hp hn
    cases k with
    | zero => simp at h; subst h; simp [List.findIdx?_cons, hp]
    | succ k =>
      have ha := hn 0 a (by omega) rfl
      have := ih k x (by simpa using h) hp (fun j y hj hy => hn (j + 1) y (by omega) (by simpa using hy))
      simp [List.findIdx?_cons, ha, this]
theorem findIdx_miss {α : Type} (p : α → Bool) (l : List α) (hn : ∀ (j : Nat) (y : α), l[j]? = some y → p y = false) : l.findIdx? p = none := by
  rw [List.findIdx?_eq_none_iff]
  intro x hx
  obtain ⟨j, hj⟩ := List.mem_iff_getElem?.1 hx
  exact hn j x hj
theorem scanS_byte {s : List UInt8} {k : Nat} {b : UInt8} (h : ¬ 40000 < s.length) (hk : s[k]? = some b) (hb : cls b.toNat = 0) (hn : ∀ (j : Nat) (y : UInt8), j < k → s[j]? = some y → cls y.toNat ≠ 0) : scanS s = ([], k, 30) := by
  unfold scanS
  rw [if_neg h, findIdx_hit _ s k b hk (by simpa using hb) (fun j y hj hy => by simpa using hn j y hj hy)]
theorem scanS_full {s : List UInt8} {i : Nat} {l : List TokD} {t : TokD} {r : List TokD} (h : ¬ 40000 < s.length) (hn : ∀ (j : Nat) (y : UInt8), s[j]? = some y → cls y.toNat ≠ 0) (ht : toks 0 s = l ++ toks i (s.drop i)) (hl : l.length = 8000) (hi : toks i (s.drop i) = t :: r) (h2 : t.2 = i) : scanS s = ([], i, 8) := by
  unfold scanS
  rw [if_neg h, findIdx_miss _ s (fun j y hy => by simpa using hn j y hy)]
  have : (toks 0 s)[8000]? = some t := by rw [ht, hi, List.getElem?_append_right (by omega), hl]; rfl
  rw [this]
  simp [h2]
theorem scanS_ok {s : List UInt8} {l : List TokD} (h : ¬ 40000 < s.length) (hn : ∀ (j : Nat) (y : UInt8), s[j]? = some y → cls y.toNat ≠ 0) (ht : toks 0 s = l) (hl : l.length ≤ 8000) : scanS s = (l, 0, 0) := by
  unfold scanS
  rw [if_neg h, findIdx_miss _ s (fun j y hy => by simpa using hn j y hy), ht]
  have : l[8000]? = none := List.getElem?_eq_none (by omega)
  rw [this]
theorem scanS_where (s : List UInt8) : (∀ t ∈ (scanS s).1, t.2 + t.1.length ≤ s.length ∧ 0 < t.1.length) ∧ (scanS s).1.Pairwise (fun a b => a.2 + a.1.length ≤ b.2) ∧ (scanS s).1.length ≤ 8000 := by
  obtain ⟨i1, i2⟩ := toks_where _ s 0 (Nat.le_refl _)
  unfold scanS
  split
  · simp
  · split
    · simp
    · split
      · simp
      · rename_i hn
        refine ⟨fun t ht => by have := i1 t ht; omega, i2, ?_⟩
        have := List.getElem?_eq_none_iff.1 hn
        simpa using this
end Go.Proofs.Ytignhjfobcnloaa
