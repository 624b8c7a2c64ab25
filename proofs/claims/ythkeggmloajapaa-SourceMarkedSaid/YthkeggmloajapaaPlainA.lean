/- The letters of a number, as a plain list of bytes. Classes of bytes, labels: plain functions. The tokens of a text, as plain functions. The words and comments of a text, as plain functions. -/

section
namespace Go.Proofs.Ythkeggmloajapaa
/-- the letter number k behind the letter b -/
def byteAt (b k : Nat) : UInt8 := UInt8.ofNat (b + k)
/-- the letters U to Y of a number r -/
def lets (r : Nat) : List UInt8 := if r = 0 then [] else lets ((r - 1) / 5) ++ [byteAt 85 ((r - 1) % 5)]
termination_by r
decreasing_by omega
/-- the letters of a number -/
def lettersS (n : Nat) : List UInt8 := lets ((n - 1) / 20) ++ [byteAt 65 ((n - 1) % 20)]
theorem lets_zero : lets 0 = [] := by rw [lets]; simp
theorem lets_pos {r : Nat} (h : 0 < r) : lets r = lets ((r - 1) / 5) ++ [byteAt 85 ((r - 1) % 5)] := by
  rw [lets, if_neg (by omega)]
theorem byteAt_toNat {b k : Nat} (h : b + k < 256) : (byteAt b k).toNat = b + k := by
  unfold byteAt; simp [UInt8.toNat_ofNat']; omega
end Go.Proofs.Ythkeggmloajapaa
end
section
namespace Go.Proofs.Ythkeggmloajapaa
/-- the class of a byte: 1 white space, 2 a byte of a label, 3 another printable character, 4 the dollar sign, 0 none -/
def cls (b : Nat) : Nat :=
  if b = 32 ∨ (9 ≤ b ∧ b ≤ 13 ∧ b ≠ 11) then 1 else if b = 36 then 4
  else if (48 ≤ b ∧ b ≤ 57) ∨ (65 ≤ b ∧ b ≤ 90) ∨ (97 ≤ b ∧ b ≤ 122) ∨ b = 45 ∨ b = 95 ∨ b = 46 then 2
  else if 32 < b ∧ b ≤ 126 then 3 else 0
theorem cls_le (b : Nat) : cls b ≤ 4 := by
  unfold cls
  split
  · omega
  · split
    · omega
    · split
      · omega
      · split <;> omega
theorem cls_two (b : Nat) : cls b = 2 ↔ (48 ≤ b ∧ b ≤ 57) ∨ (65 ≤ b ∧ b ≤ 90) ∨ (97 ≤ b ∧ b ≤ 122) ∨ b = 45 ∨ b = 95 ∨ b = 46 := by
  unfold cls
  split
  · omega
  · split
    · omega
    · split
      · omega
      · split <;> omega
/-- the string has a permitted length, and bytes of the classes ps alone -/
def onlyS (s : List UInt8) (ps : List Nat) : Prop := s ≠ [] ∧ s.length ≤ 60 ∧ ∀ b ∈ s, cls b.toNat ∈ ps
instance (s : List UInt8) (ps : List Nat) : Decidable (onlyS s ps) := by unfold onlyS; infer_instance
/-- the place of the first x in l; -1: none -/
def indexI {α : Type} [DecidableEq α] (l : List α) (x : α) : Int := if x ∈ l then (l.idxOf x : Nat) else -1
theorem idxOf_at {α : Type} [DecidableEq α] : ∀ (l : List α) (x : α) (k : Nat), l[k]? = some x → (∀ y ∈ l.take k, y ≠ x) → l.idxOf x = k := by
  intro l
  induction l with
  | nil => intro x k h; simp at h
  | cons a l ih =>
    intro x k h hn
    cases k with
    | zero => simp at h; simp [h]
    | succ k =>
      have h1 : a ≠ x := hn a (by simp)
      have h2 := ih x k (by simpa using h) (fun y hy => hn y (by simp [hy]))
      have h3 : (a == x) = false := by simpa using h1
      rw [List.idxOf_cons, h2, h3]
      rfl
theorem indexI_hit {α : Type} [DecidableEq α] {l : List α} {x : α} {k : Nat} (h : l[k]? = some x) (hn : ∀ y ∈ l.take k, y ≠ x) : indexI l x = k := by
  unfold indexI
  rw [if_pos (List.mem_of_getElem? h), idxOf_at l x k h hn]
theorem indexI_miss {α : Type} [DecidableEq α] {l : List α} {x : α} (hn : ∀ y ∈ l, y ≠ x) : indexI l x = -1 := by
  unfold indexI
  rw [if_neg fun h => hn x h rfl]
theorem indexI_ge {α : Type} [DecidableEq α] (l : List α) (x : α) : decide (0 ≤ indexI l x) = decide (x ∈ l) := by
  unfold indexI
  by_cases h : x ∈ l <;> simp [h]
theorem take_snoc {α : Type} {l : List α} {k : Nat} {a : α} (h : l[k]? = some a) : l.take (k + 1) = l.take k ++ [a] := by rw [List.take_add_one, h]; rfl
theorem all_snoc {α : Type} {l : List α} {k : Nat} {a : α} {p : α → Prop} (h : l[k]? = some a) (hn : ∀ y ∈ l.take k, p y) (ha : p a) : ∀ y ∈ l.take (k + 1), p y := by
  rw [take_snoc h]
  intro y hy
  rcases List.mem_append.1 hy with hy | hy
  · exact hn y hy
  · simp at hy; rw [hy]; exact ha
theorem all_of_take {α : Type} {l : List α} {k : Nat} {p : α → Prop} (hk : l.length ≤ k) (hn : ∀ y ∈ l.take k, p y) : ∀ y ∈ l, p y := by rwa [List.take_of_length_le hk] at hn
end Go.Proofs.Ythkeggmloajapaa
end
section
namespace Go.Proofs.Ythkeggmloajapaa
/-- a token: its bytes, and where it begins -/
abbrev TokD := List UInt8 × Nat
/-- white space -/
def sp (b : UInt8) : Bool := cls b.toNat == 1
/-- the tokens of a text that begins at byte k -/
def toks (k : Nat) (s : List UInt8) : List TokD :=
  match s with
  | [] => []
  | b :: t => if sp b then toks (k + 1) t else (b :: t.takeWhile (fun c => !sp c), k) :: toks (k + 1 + (t.takeWhile (fun c => !sp c)).length) (t.dropWhile (fun c => !sp c))
termination_by s.length
decreasing_by
  · simp
  · have := (List.dropWhile_sublist (fun c => !sp c) (l := t)).length_le
    simp; omega
theorem toks_nil (k : Nat) : toks k [] = [] := by rw [toks]
theorem toks_sp {k : Nat} {b : UInt8} {t : List UInt8} (h : sp b = true) : toks k (b :: t) = toks (k + 1) t := by rw [toks, if_pos h]
theorem toks_cons {k : Nat} {b : UInt8} {t : List UInt8} (h : sp b = false) : toks k (b :: t) = (b :: t.takeWhile (fun c => !sp c), k) :: toks (k + 1 + (t.takeWhile (fun c => !sp c)).length) (t.dropWhile (fun c => !sp c)) := by
  rw [toks, if_neg (by simp [h])]
theorem takeWhile_at {α : Type} (p : α → Bool) : ∀ (l : List α) (n : Nat), n ≤ l.length → (∀ j b, j < n → l[j]? = some b → p b = true) → (∀ b, l[n]? = some b → p b = false) → l.takeWhile p = l.take n ∧ l.dropWhile p = l.drop n := by
  intro l
  induction l with
  | nil => intro n h _ _; simp at h; subst h; simp
  | cons a l ih =>
    intro n h h1 h2
    cases n with
    | zero => have := h2 a rfl; simp [this]
    | succ n =>
      have ha := h1 0 a (by omega) rfl
      obtain ⟨i1, i2⟩ := ih n (by simpa using h) (fun j b hj hb => h1 (j + 1) b (by omega) (by simpa using hb)) (fun b hb => h2 b (by simpa using hb))
      simp [ha, i1, i2]
/-- one token, found by where it ends -/
theorem toks_at {s : List UInt8} {i e : Nat} (h1 : i < e) (h2 : e ≤ s.length) (h3 : ∀ j b, i ≤ j → j < e → s[j]? = some b → sp b = false) (h4 : ∀ b, s[e]? = some b → sp b = true) :
    toks i (s.drop i) = ((s.take e).drop i, i) :: toks e (s.drop e) := by
  have hi : i < s.length := by omega
  have hb := h3 i s[i] (Nat.le_refl _) h1 (List.getElem?_eq_getElem hi)
  obtain ⟨t1, t2⟩ := takeWhile_at (fun c => !sp c) (s.drop (i + 1)) (e - (i + 1)) (by simp; omega)
    (fun j b hj hb => by rw [List.getElem?_drop] at hb; simp [h3 (i + 1 + j) b (by omega) (by omega) hb])
    (fun b hb => by rw [List.getElem?_drop, show i + 1 + (e - (i + 1)) = e by omega] at hb; simp [h4 b hb])
  rw [List.drop_eq_getElem_cons hi, toks_cons hb, t1, t2, List.drop_drop, show i + 1 + (e - (i + 1)) = e by omega]
  congr 1
  · congr 1
    rw [List.drop_take, show e - i = (e - (i + 1)) + 1 by omega, List.drop_eq_getElem_cons hi, List.take_succ_cons]
  · congr 1
    simp; omega
theorem toks_skip {s : List UInt8} {i : Nat} {b : UInt8} (hb : s[i]? = some b) (h : sp b = true) : toks i (s.drop i) = toks (i + 1) (s.drop (i + 1)) := by
  obtain ⟨hi, rfl⟩ := List.getElem?_eq_some_iff.1 hb
  rw [List.drop_eq_getElem_cons hi, toks_sp h]
theorem toks_end {s : List UInt8} : toks s.length (s.drop s.length) = [] := by rw [List.drop_length, toks_nil]
/-- where the tokens lie -/
theorem toks_where : ∀ (n : Nat) (s : List UInt8) (k : Nat), s.length ≤ n → (∀ t ∈ toks k s, k ≤ t.2 ∧ t.2 + t.1.length ≤ k + s.length ∧ 0 < t.1.length) ∧ (toks k s).Pairwise (fun a b => a.2 + a.1.length ≤ b.2) := by
  intro n
  induction n with
  | zero => intro s k h; obtain rfl : s = [] := List.length_eq_zero_iff.1 (by omega); rw [toks_nil]; simp
  | succ n ih =>
    intro s k h
    cases s with
    | nil => rw [toks_nil]; simp
    | cons b t =>
      simp only [List.length_cons] at h ⊢
      by_cases hb : sp b = true
      · rw [toks_sp hb]
        obtain ⟨i1, i2⟩ := ih t (k + 1) (by omega)
        exact ⟨fun x hx => by have := i1 x hx; omega, i2⟩
      · have hb' : sp b = false := by simpa using hb
        rw [toks_cons hb']
        have hl : (t.takeWhile fun c => !sp c).length + (t.dropWhile fun c => !sp c).length = t.length := by
          rw [← List.length_append, List.takeWhile_append_dropWhile]
        obtain ⟨i1, i2⟩ := ih (t.dropWhile fun c => !sp c) (k + 1 + (t.takeWhile fun c => !sp c).length) (by omega)
        refine ⟨fun x hx => ?_, List.pairwise_cons.2 ⟨fun x hx => ?_, i2⟩⟩
        · rcases List.mem_cons.1 hx with rfl | hx
          · simp; omega
          · have := i1 x hx; omega
        · have := i1 x hx
          simp; omega
theorem toks_len : ∀ (n : Nat) (s : List UInt8) (k : Nat), s.length ≤ n → (toks k s).length ≤ s.length := by
  intro n
  induction n with
  | zero => intro s k h; obtain rfl : s = [] := List.length_eq_zero_iff.1 (by omega); rw [toks_nil]; simp
  | succ n ih =>
    intro s k h
    cases s with
    | nil => rw [toks_nil]; simp
    | cons b t =>
      simp only [List.length_cons] at h ⊢
      by_cases hb : sp b = true
      · rw [toks_sp hb]
        have := ih t (k + 1) (by omega); omega
      · rw [toks_cons (by simpa using hb)]
        have h2 := (List.dropWhile_sublist (fun c => !sp c) (l := t)).length_le
        have := ih (t.dropWhile fun c => !sp c) (k + 1 + (t.takeWhile fun c => !sp c).length) (by omega)
        simp; omega
/-- the tokens, the place and the code that Scan returns -/
def scanS (s : List UInt8) : List TokD × Nat × Int :=
  if 40000 < s.length then ([], 0, 4)
  else match s.findIdx? (fun b => cls b.toNat == 0) with
    | some i => ([], i, 30)
    | none => match (toks 0 s)[8000]? with
      | some t => ([], t.2, 8)
      | none => (toks 0 s, 0, 0)
theorem scanS_big {s : List UInt8} (h : 40000 < s.length) : scanS s = ([], 0, 4) := by unfold scanS; rw [if_pos h]
theorem findIdx_hit {α : Type} (p : α → Bool) : ∀ (l : List α) (k : Nat) (x : α), l[k]? = some x → p x = true → (∀ j y, j < k → l[j]? = some y → p y = false) → l.findIdx? p = some k := by
  intro l
  induction l with
  | nil => intro k x h; simp at h
  | cons a l ih =>
    intro k x h hp hn
    cases k with
    | zero => simp at h; subst h; simp [List.findIdx?_cons, hp]
    | succ k =>
      have ha := hn 0 a (by omega) rfl
      have := ih k x (by simpa using h) hp (fun j y hj hy => hn (j + 1) y (by omega) (by simpa using hy))
      simp [List.findIdx?_cons, ha, this]
theorem findIdx_miss {α : Type} (p : α → Bool) (l : List α) (hn : ∀ (j : Nat) (y : α), l[j]? = some y → p y = false) : l.findIdx? p = none := by
  rw [List.findIdx?_eq_none_iff]
  intro x hx
  obtain ⟨j, hj⟩ := List.mem_iff_getElem?.1 hx
  exact hn j x hj
theorem scanS_byte {s : List UInt8} {k : Nat} {b : UInt8} (h : ¬ 40000 < s.length) (hk : s[k]? = some b) (hb : cls b.toNat = 0) (hn : ∀ (j : Nat) (y : UInt8), j < k → s[j]? = some y → cls y.toNat ≠ 0) : scanS s = ([], k, 30) := by
  unfold scanS
  rw [if_neg h, findIdx_hit _ s k b hk (by simpa using hb) (fun j y hj hy => by simpa using hn j y hj hy)]
theorem scanS_full {s : List UInt8} {i : Nat} {l : List TokD} {t : TokD} {r : List TokD} (h : ¬ 40000 < s.length) (hn : ∀ (j : Nat) (y : UInt8), s[j]? = some y → cls y.toNat ≠ 0) (ht : toks 0 s = l ++ toks i (s.drop i)) (hl : l.length = 8000) (hi : toks i (s.drop i) = t :: r) (h2 : t.2 = i) : scanS s = ([], i, 8) := by
  unfold scanS
  rw [if_neg h, findIdx_miss _ s (fun j y hy => by simpa using hn j y hy)]
  have : (toks 0 s)[8000]? = some t := by rw [ht, hi, List.getElem?_append_right (by omega), hl]; rfl
  rw [this]
  simp [h2]
theorem scanS_ok {s : List UInt8} {l : List TokD} (h : ¬ 40000 < s.length) (hn : ∀ (j : Nat) (y : UInt8), s[j]? = some y → cls y.toNat ≠ 0) (ht : toks 0 s = l) (hl : l.length ≤ 8000) : scanS s = (l, 0, 0) := by
  unfold scanS
  rw [if_neg h, findIdx_miss _ s (fun j y hy => by simpa using hn j y hy), ht]
  have : l[8000]? = none := List.getElem?_eq_none (by omega)
  rw [this]
theorem scanS_where (s : List UInt8) : (∀ t ∈ (scanS s).1, t.2 + t.1.length ≤ s.length ∧ 0 < t.1.length) ∧ (scanS s).1.Pairwise (fun a b => a.2 + a.1.length ≤ b.2) ∧ (scanS s).1.length ≤ 8000 := by
  obtain ⟨i1, i2⟩ := toks_where _ s 0 (Nat.le_refl _)
  unfold scanS
  split
  · simp
  · split
    · simp
    · split
      · simp
      · rename_i hn
        refine ⟨fun t ht => by have := i1 t ht; omega, i2, ?_⟩
        have := List.getElem?_eq_none_iff.1 hn
        simpa using this
end Go.Proofs.Ythkeggmloajapaa
end
section
namespace Go.Proofs.Ythkeggmloajapaa
/-- a text holds a comment keyword -/
def hasB (a b : UInt8) : List UInt8 → Bool
  | [] => false
  | x :: t => (x == a && t.head? == some b) || hasB a b t
theorem hasB_iff (a b : UInt8) : ∀ (s : List UInt8), hasB a b s = true ↔ ∃ j : Nat, s[j]? = some a ∧ s[j + 1]? = some b := by
  intro s
  induction s with
  | nil => simp [hasB]
  | cons x t ih =>
    unfold hasB
    rw [Bool.or_eq_true, ih]
    constructor
    · rintro (h | ⟨j, h1, h2⟩)
      · simp at h
        refine ⟨0, by simp [h.1], ?_⟩
        rw [List.getElem?_cons_succ]
        cases t with
        | nil => simp at h
        | cons y t => simpa using h.2
      · exact ⟨j + 1, by simpa using h1, by simpa using h2⟩
    · rintro ⟨j, h1, h2⟩
      cases j with
      | zero =>
        left
        simp at h1
        rw [List.getElem?_cons_succ] at h2
        cases t with
        | nil => simp at h2
        | cons y t => simp at h2; simp [h1, h2]
      | succ j => exact .inr ⟨j, by simpa using h1, by simpa using h2⟩
def hasC (s : List UInt8) : Bool := hasB 36 40 s || hasB 36 41 s
/-- a comment: its bytes, where it begins, the number of words ahead -/
abbrev ComD := List UInt8 × Nat × Nat
/-- words, comments, an open comment -/
abbrev StD := List TokD × List ComD × Option Nat
/-- one token: the new state, or the place and the code of an error -/
def sstep (text : List UInt8) (x : StD) (t : TokD) : StD ⊕ (Nat × Int) :=
  if 2 < t.1.length ∧ hasC t.1 = true then .inr (t.2, 42)
  else if t.1 = [36, 40] then (match x.2.2 with | some _ => .inr (t.2, 42) | none => .inl (x.1, x.2.1, some t.2))
  else if t.1 = [36, 41] then (match x.2.2 with | none => .inr (t.2, 41) | some o => .inl (x.1, x.2.1 ++ [((text.take t.2).drop (o + 2), o, x.1.length)], none))
  else (match x.2.2 with | none => .inl (x.1 ++ [t], x.2.1, none) | some o => .inl (x.1, x.2.1, some o))
def srun (text : List UInt8) (x : StD) : List TokD → StD ⊕ (Nat × Int)
  | [] => .inl x
  | t :: r => match sstep text x t with | .inr e => .inr e | .inl y => srun text y r
/-- the words, the comments, the place and the code that Strip returns -/
def stripS (text : List UInt8) : List TokD × List ComD × Nat × Int :=
  if (scanS text).2.2 ≠ 0 then ([], [], (scanS text).2.1, (scanS text).2.2)
  else match srun text ([], [], none) (scanS text).1 with
    | .inr e => ([], [], e.1, e.2)
    | .inl (w, c, none) => (w, c, 0, 0)
    | .inl (_, _, some o) => ([], [], o, 40)
/-- behind k tokens -/
structure StAt (text : List UInt8) (l : List TokD) (k : Nat) (w : List TokD) (c : List ComD) (o : Option Nat) : Prop where
  le : k ≤ l.length
  wl : w.length ≤ k
  cl : c.length ≤ k
  all : srun text ([], [], none) l = srun text (w, c, o) (l.drop k)
  op : ∀ i, o = some i → i ≤ text.length ∧ ∀ t ∈ l.drop k, i + 2 ≤ t.2
theorem StAt.start (text : List UInt8) (l : List TokD) : StAt text l 0 [] [] none := ⟨Nat.zero_le _, Nat.le_refl _, Nat.le_refl _, by simp, by simp⟩
section
variable {text : List UInt8} {l : List TokD} {k : Nat} {w : List TokD} {c : List ComD} {o : Option Nat} {t : TokD}
theorem tdrop (ht : l[k]? = some t) : l.drop k = t :: l.drop (k + 1) := by
  obtain ⟨hk, e⟩ := List.getElem?_eq_some_iff.1 ht
  rw [List.drop_eq_getElem_cons hk, e]
theorem StAt.bad (h : StAt text l k w c o) (ht : l[k]? = some t) {e : Nat × Int} (hs : sstep text (w, c, o) t = .inr e) : srun text ([], [], none) l = .inr e := by
  rw [h.all, tdrop ht]; simp [srun, hs]
theorem StAt.good (h : StAt text l k w c o) (ht : l[k]? = some t) {w' : List TokD} {c' : List ComD} {o' : Option Nat} (hs : sstep text (w, c, o) t = .inl (w', c', o')) (hw : w'.length ≤ k + 1) (hc : c'.length ≤ k + 1) (ho : ∀ i, o' = some i → i ≤ text.length ∧ ∀ t ∈ l.drop (k + 1), i + 2 ≤ t.2) :
    StAt text l (k + 1) w' c' o' :=
  ⟨(List.getElem?_eq_some_iff.1 ht).1, hw, hc, by rw [h.all, tdrop ht]; simp [srun, hs], ho⟩
theorem StAt.keepOp (h : StAt text l k w c o) (ht : l[k]? = some t) : ∀ i, o = some i → i ≤ text.length ∧ ∀ t ∈ l.drop (k + 1), i + 2 ≤ t.2 :=
  fun i hi => ⟨(h.op i hi).1, fun x hx => (h.op i hi).2 x (by rw [tdrop ht]; exact List.mem_cons_of_mem _ hx)⟩
theorem StAt.opAt {i : Nat} (h : StAt text l k w c (some i)) (ht : l[k]? = some t) : i + 2 ≤ t.2 := (h.op i rfl).2 t (by rw [tdrop ht]; exact List.mem_cons_self ..)
theorem sstep_inside (h1 : 2 < t.1.length) (h2 : hasC t.1 = true) : sstep text (w, c, o) t = .inr (t.2, 42) := by unfold sstep; rw [if_pos ⟨h1, h2⟩]
theorem sstep_open (h : t.1 = [36, 40]) : sstep text (w, c, none) t = .inl (w, c, some t.2) := by
  unfold sstep; rw [if_neg (by rw [h]; simp), if_pos h]
theorem sstep_open2 {i : Nat} (h : t.1 = [36, 40]) : sstep text (w, c, some i) t = .inr (t.2, 42) := by
  unfold sstep; rw [if_neg (by rw [h]; simp), if_pos h]
theorem sstep_close (h : t.1 = [36, 41]) : sstep text (w, c, none) t = .inr (t.2, 41) := by
  unfold sstep; rw [if_neg (by rw [h]; simp), if_neg (by rw [h]; decide), if_pos h]
theorem sstep_close2 {i : Nat} (h : t.1 = [36, 41]) : sstep text (w, c, some i) t = .inl (w, c ++ [((text.take t.2).drop (i + 2), i, w.length)], none) := by
  unfold sstep; rw [if_neg (by rw [h]; simp), if_neg (by rw [h]; decide), if_pos h]
theorem sstep_word (h1 : ¬ (2 < t.1.length ∧ hasC t.1 = true)) (h2 : t.1 ≠ [36, 40]) (h3 : t.1 ≠ [36, 41]) : sstep text (w, c, none) t = .inl (w ++ [t], c, none) := by
  unfold sstep; rw [if_neg h1, if_neg h2, if_neg h3]
theorem sstep_skip {i : Nat} (h1 : ¬ (2 < t.1.length ∧ hasC t.1 = true)) (h2 : t.1 ≠ [36, 40]) (h3 : t.1 ≠ [36, 41]) : sstep text (w, c, some i) t = .inl (w, c, some i) := by
  unfold sstep; rw [if_neg h1, if_neg h2, if_neg h3]
theorem StAt.fin (h : StAt text l l.length w c o) : srun text ([], [], none) l = .inl (w, c, o) := by rw [h.all, List.drop_length]; rfl
/-- an opening keyword: the tokens behind it lie two bytes on -/
theorem StAt.openOk (hp : l.Pairwise (fun a b => a.2 + a.1.length ≤ b.2)) (hb : ∀ x ∈ l, x.2 + x.1.length ≤ text.length) (ht : l[k]? = some t) (h : t.1 = [36, 40]) : t.2 ≤ text.length ∧ ∀ x ∈ l.drop (k + 1), t.2 + 2 ≤ x.2 := by
  have h1 := hb t (List.mem_of_getElem? ht)
  refine ⟨by omega, fun x hx => ?_⟩
  have h2 : (l.drop k).Pairwise (fun a b => a.2 + a.1.length ≤ b.2) := hp.sublist (List.drop_sublist _ _)
  rw [tdrop ht] at h2
  have := (List.pairwise_cons.1 h2).1 x hx
  rw [h] at this
  simpa using this
end
theorem stripS_scan {text : List UInt8} (h : (scanS text).2.2 ≠ 0) : stripS text = ([], [], (scanS text).2.1, (scanS text).2.2) := by unfold stripS; rw [if_pos h]
theorem stripS_bad {text : List UInt8} (h : (scanS text).2.2 = 0) {e : Nat × Int} (hr : srun text ([], [], none) (scanS text).1 = .inr e) : stripS text = ([], [], e.1, e.2) := by unfold stripS; rw [if_neg (fun hh => hh h), hr]
theorem stripS_open {text : List UInt8} (h : (scanS text).2.2 = 0) {w : List TokD} {c : List ComD} {o : Nat} (hr : srun text ([], [], none) (scanS text).1 = .inl (w, c, some o)) : stripS text = ([], [], o, 40) := by unfold stripS; rw [if_neg (fun hh => hh h), hr]
theorem stripS_ok {text : List UInt8} (h : (scanS text).2.2 = 0) {w : List TokD} {c : List ComD} (hr : srun text ([], [], none) (scanS text).1 = .inl (w, c, none)) : stripS text = (w, c, 0, 0) := by unfold stripS; rw [if_neg (fun hh => hh h), hr]
end Go.Proofs.Ythkeggmloajapaa
end
