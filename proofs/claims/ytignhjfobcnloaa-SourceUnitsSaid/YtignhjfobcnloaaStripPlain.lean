/- The words and comments of a text, as plain functions. -/
import Derived.Test.YtignhjfobcnloaaScanPlain
namespace Go.Proofs.Ytignhjfobcnloaa
/-- a text holds a comment keyword -/
def hasB (a b : UInt8) : List UInt8 → Bool
  | [] => false
  | x :: t => (x == a && t.head? == some b) || hasB a b t
theorem hasB_iff (a b : UInt8) : ∀ (s : List UInt8), hasB a b s = true ↔ ∃ j : Nat, s[j]? = some a ∧ s[j + 1]? = some b := by
  intro s
  induction s with
  | nil => simp [hasB]
  | cons x t ih =>
    unfold hasB
    rw [Bool.or_eq_true, ih]
    constructor
    · rintro (h | ⟨j, h1, h2⟩)
      · simp at h
        refine ⟨0, by simp [h.1], ?_⟩
        rw [List.getElem?_cons_succ]
        cases t with
        | nil => simp at h
        | cons y t => simpa using h.2
      · exact ⟨j + 1, by simpa using h1, by simpa using h2⟩
    · rintro ⟨j, h1, h2⟩
      cases j with
      | zero =>
        left
        simp at h1
        rw [List.getElem?_cons_succ] at h2
        cases t with
        | nil => simp at h2
        | cons y t => simp at h2; simp [h1, h2]
      | succ j => exact .inr ⟨j, by simpa using h1, by simpa using h2⟩
def hasC (s : List UInt8) : Bool := hasB 36 40 s || hasB 36 41 s
/-- a comment: its bytes, where it begins, the number of words ahead -/
abbrev ComD := List UInt8 × Nat × Nat
/-- words, comments, an open comment -/
abbrev StD := List TokD × List ComD × Option Nat
/-- one token: the new state, or the place and the code of an error -/
def sstep (text : List UInt8) (x : StD) (t : TokD) : StD ⊕ (Nat × Int) :=
  if 2 < t.1.length ∧ hasC t.1 = true then .inr (t.2, 42)
  else if t.1 = [36, 40] then (match x.2.2 with | some _ => .inr (t.2, 42) | none => .inl (x.1, x.2.1, some t.2))
  else if t.1 = [36, 41] then (match x.2.2 with | none => .inr (t.2, 41) | some o => .inl (x.1, x.2.1 ++ [((text.take t.2).drop (o + 2), o, x.1.length)], none))
  else (match x.2.2 with | none => .inl (x.1 ++ [t], x.2.1, none) | some o => .inl (x.1, x.2.1, some o))
def srun (text : List UInt8) (x : StD) : List TokD → StD ⊕ (Nat × Int)
  | [] => .inl x
  | t :: r => match sstep text x t with | .inr e => .inr e | .inl y => srun text y r
/-- the words, the comments, the place and the code that Strip returns -/
def stripS (text : List UInt8) : List TokD × List ComD × Nat × Int :=
  if (scanS text).2.2 ≠ 0 then ([], [], (scanS text).2.1, (scanS text).2.2)
  else match srun text ([], [], none) (scanS text).1 with
    | .inr e => ([], [], e.1, e.2)
    | .inl (w, c, none) => (w, c, 0, 0)
    | .inl (_, _, some o) => ([], [], o, 40)
/-- behind k tokens -/
structure StAt (text : List UInt8) (l : List TokD) (k : Nat) (w : List TokD) (c : List ComD) (o : Option Nat) : Prop where
  le : k ≤ l.length
  wl : w.length ≤ k
  cl : c.length ≤ k
  all : srun text ([], [], none) l = srun text (w, c, o) (l.drop k)
  op : ∀ i, o = some i → i ≤ text.length ∧ ∀ t ∈ l.drop k, i + 2 ≤ t.2
theorem StAt.start (text : List UInt8) (l : List TokD) : StAt text l 0 [] [] none := ⟨Nat.zero_le _, Nat.le_refl _, Nat.le_refl _, by simp, by simp⟩
section
variable {text : List UInt8} {l : List TokD} {k : Nat} {w : List TokD} {c : List ComD} {o : Option Nat} {t : TokD}
theorem tdrop (ht : l[k]? = some t) : l.drop k = t :: l.drop (k + 1) := by
  obtain ⟨hk, e⟩ := List.getElem?_eq_some_iff.1 ht
  rw [List.drop_eq_getElem_cons hk, e]
theorem StAt.bad (h : StAt text l k w c o) (ht : l[k]? = some t) {e : Nat × Int} (hs : sstep text (w, c, o) t = .inr e) : srun text ([], [], none) l = .inr e := by
  rw [h.all, tdrop ht]; simp [srun, hs]
theorem StAt.good (h : StAt text l k w c o) (ht : l[k]? = some t) {w' : List TokD} {c' : List ComD} {o' : Option Nat} (hs : sstep text (w, c, o) t = .inl (w', c', o')) (hw : w'.length ≤ k + 1) (hc : c'.length ≤ k + 1) (ho : ∀ i, o' = some i → i ≤ text.length ∧ ∀ t ∈ l.drop (k + 1), i + 2 ≤ t.2) :
    StAt text l (k + 1) w' c' o' :=
  ⟨(List.getElem?_eq_some_iff.1 ht).1, hw, hc, by rw [h.all, tdrop ht]; simp [srun, hs], ho⟩
theorem StAt.keepOp (h : StAt text l k w c o) (ht : l[k]? = some t) : ∀ i, o = some i → i ≤ text.length ∧ ∀ t ∈ l.drop (k + 1), i + 2 ≤ t.2 :=
  fun i hi => ⟨(h.op i hi).1, fun x hx => (h.op i hi).2 x (by rw [tdrop ht]; exact List.mem_cons_of_mem _ hx)⟩
theorem StAt.opAt {i : Nat} (h : StAt text l k w c (some i)) (ht : l[k]? = some t) : i + 2 ≤ t.2 := (h.op i rfl).2 t (by rw [tdrop ht]; exact List.mem_cons_self ..)
theorem sstep_inside (h1 : 2 < t.1.length) (h2 : hasC t.1 = true) : sstep text (w, c, o) t = .inr (t.2, 42) := by unfold sstep; rw [if_pos ⟨h1, h2⟩]
theorem sstep_open (h : t.1 = [36, 40]) : sstep text (w, c, none) t = .inl (w, c, some t.2) := by
  unfold sstep; rw [if_neg (by rw [h]; simp), if_pos h]
theorem sstep_open2 {i : Nat} (h : t.1 = [36, 40]) : sstep text (w, c, some i) t = .inr (t.2, 42) := by
  unfold sstep; rw [if_neg (by rw [h]; simp), if_pos h]
theorem sstep_close (h : t.1 = [36, 41]) : sstep text (w, c, none) t = .inr (t.2, 41) := by
  unfold sstep; rw [if_neg (by rw [h]; simp), if_neg (by rw [h]; decide), if_pos h]
theorem sstep_close2 {i : Nat} (h : t.1 = [36, 41]) : sstep text (w, c, some i) t = .inl (w, c ++ [((text.take t.2).drop (i + 2), i, w.length)], none) := by
  unfold sstep; rw [if_neg (by rw [h]; simp), if_neg (by rw [h]; decide), if_pos h]
theorem sstep_word (h1 : ¬ (2 < t.1.length ∧ hasC t.1 = true)) (h2 : t.1 ≠ [36, 40]) (h3 : t.1 ≠ [36, 41]) : sstep text (w, c, none) t = .inl (w ++ [t], c, none) := by
  unfold sstep; rw [if_neg h1, if_neg h2, if_neg h3]
theorem sstep_skip {i : Nat} (h1 : ¬ (2 < t.1.length ∧ hasC t.1 = true)) (h2 : t.1 ≠ [36, 40]) (h3 : t.1 ≠ [36, 41]) : sstep text (w, c, some i) t = .inl (w, c, some i) := by
  unfold sstep; rw [if_neg h1, if_neg h2, if_neg h3]
theorem StAt.fin (h : StAt text l l.length w c o) : srun text ([], [], none) l = .inl (w, c, o) := by rw [h.all, List.drop_length]; rfl
/-- an opening keyword: the tokens behind it lie two bytes on -/
theorem StAt.openOk (hp : l.Pairwise (fun a b => a.2 + a.1.length ≤ b.2)) (hb : ∀ x ∈ l, x.2 + x.1.length ≤ text.length) (ht : l[k]? = some t) (h : t.1 = [36, 40]) : t.2 ≤ text.length ∧ ∀ x ∈ l.drop (k + 1), t.2 + 2 ≤ x.2 := by
  have h1 := hb t (List.mem_of_getElem? ht)
  refine ⟨by omega, fun x hx => ?_⟩
  have h2 : (l.drop k).Pairwise (fun a b => a.2 + a.1.length ≤ b.2) := hp.sublist (List.drop_sublist _ _)
  rw [tdrop ht] at h2
  have := (List.pairwise_cons.1 h2).1 x hx
  rw [h] at this
  simpa using this
end
theorem stripS_scan {text : List UInt8} (h : (scanS text).2.2 ≠ 0) : stripS text = ([], [], (scanS text).2.1, (scanS text).2.2) := by unfold stripS; rw [if_pos h]
theorem stripS_bad {text : List UInt8} (h : (scanS text).2.2 = 0) {e : Nat × Int} (hr : srun text ([], [], none) (scanS text).1 = .inr e) : stripS text = ([], [], e.1, e.2) := by unfold stripS; rw [if_neg (fun hh => hh h), hr]
theorem stripS_open {text : List UInt8} (h : (scanS text).2.2 = 0) {w : List TokD} {c : List ComD} {o : Nat} (hr : srun text ([], [], none) (scanS text).1 = .inl (w, c, some o)) : stripS text = ([], [], o, 40) := by unfold stripS; rw [if_neg (fun hh => hh h), hr]
theorem stripS_ok {text : List UInt8} (h : (scanS text).2.2 = 0) {w : List TokD} {c : List ComD} (hr : srun text ([], [], none) (scanS text).1 = .inl (w, c, none)) : stripS text = (w, c, 0, 0) := by unfold stripS; rw [if_neg (fun hh => hh h), hr]
end Go.Proofs.Ytignhjfobcnloaa
